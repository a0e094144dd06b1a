import Derived.Test.YtlbdkcnbgdmpaaaGreatDoorRows
import Derived.Test.YtlbdkcnbgdmpaaaGreatDoorOnez0
import Derived.WalkSpells
import Derived.WalkLawsBesides
import Derived.BigQuiet
import Derived.Laws.CopyOwn
import Derived.Lib.Hide
import Derived.Laws.BitsAllLaws
import Derived.StillTailTactics
import Derived.Maps.OwnOps
import Derived.BigRegion

/- RamNew -/
/- The walk of ram.New. -/
namespace Go.Proofs.YtlbdkcnbgdmpaaaGreatDoor
open Go.RowKit Go.Deep
set_option linter.unusedVariables false

theorem Tryz.info_byte : (Tryz.prog.info? 5).map (fun i => (i.zero, i.size, i.bytes)) = some (some (.int .u8 0), 1, 1) := by kernel_rfl

/-- the cells that memory begins with -/
def zeroRow (n : Nat) : Array Value := madeCells #[.int .u8 0] n
theorem make_ram (w : World) : (Instr.makeSlice 50 (.int .i64 16384) (.int .i64 16384)).run Tryz.prog w = .ok (.slice (some ⟨w.heap.size, 0, none⟩) 16384 16384) (w.alloc (.cells (zeroRow 16384) 5)) :=
  run_make_row' (P := Tryz.prog) 50 5 (.int .u8 0) 1 Tryz.underlying50 Tryz.info_byte rfl .i64 .i64 16384 (by omega) (by omega) w

/-- byte k of a word, the highest first -/
def Wb (v : Int) (k : Nat) : Int := v / 2 ^ (8 * (3 - k)) % 256
/-- the bytes of memory that begins with n words -/
def ramOf (n : Nat) (ws : Nat → Int) (j : Nat) : Int := if j < 4 * n then Wb (ws (j / 4)) (j % 4) else 0

/-- A Ram LIES AT BLOCK r: its bytes in block pb, its maps in pw and ph -/
structure RamAt (w : World) (r pb pw ph cp : Nat) (m : Nat → Int) : Prop where
  box : w.heap[r]? = some (.cells #[.slice (some ⟨pb, 0, none⟩) 16384 cp, .map (some pw), .map (some ph)] 57 (0, 0))
  bytes : RowTo w pb 5 16384 (fun i => .int .u8 (m i))
  room : 16384 ≤ cp ∧ cp ≤ 9223372036854775807
  rng : ∀ i, i < 16384 → 0 ≤ m i ∧ m i < 256
  apart : r ≠ pb ∧ r ≠ pw ∧ r ≠ ph ∧ pb ≠ pw ∧ pb ≠ ph ∧ pw ≠ ph
theorem RamAt.keep {w w' : World} {r pb pw ph cp : Nat} {m : Nat → Int} {S : Nat → Prop} (h : RamAt w r pb pw ph cp m) (k : Keeps S w w') (hr : ¬ S r) (hb : ¬ S pb) : RamAt w' r pb pw ph cp m :=
  ⟨(k.block r (Array.getElem?_eq_some_iff.1 h.box).1 hr).trans h.box, k.rowTo h.bytes hb, h.room, h.rng, h.apart⟩

/-- where New stands when i words are laid -/
structure NewRel (w wr : World) (ws : Nat → Int) (i : Nat) : Prop where
  keeps : Keeps (fun _ => False) w wr
  size : w.heap.size + 3 < wr.heap.size
  bytes : wr.rowIs w.heap.size 5 16384 (fun j => .int .u8 (ramOf i ws j))
  watch : wr.heap[w.heap.size + 1]? = some (.map #[] 0)
  hits : wr.heap[w.heap.size + 2]? = some (.map #[] 0)
  box : wr.heap[w.heap.size + 3]? = some (.cells #[.slice (some ⟨w.heap.size, 0, none⟩) 16384 16384, .map (some (w.heap.size + 1)), .map (some (w.heap.size + 2))] 57 (0, 0))

theorem newRel_start (w : World) (ws : Nat → Int) : NewRel w ((((w.alloc (.cells (zeroRow 16384) 5)).alloc (.map #[] 0)).alloc (.map #[] 0)).alloc (.cells #[.slice (some ⟨w.heap.size, 0, none⟩) 16384 16384, .map (some (w.heap.size + 1)), .map (some (w.heap.size + 1 + 1))] 57)) ws 0 where
  keeps := ((((Keeps.refl _ w).alloc _).alloc _).alloc _).alloc _
  size := by simp
  bytes := ((((World.rowIs_made w (.int .u8 0) 16384 5).alloc _).alloc _).alloc _).congr (fun i _ => by simp [ramOf])
  watch := by
    rw [blk_alloc_lt _ _ _ (by simp), blk_alloc_lt _ _ _ (by simp)]
    have := blk_alloc_new (w.alloc (.cells (zeroRow 16384) 5)) (.map #[] 0)
    rwa [nblk_alloc] at this
  hits := by
    rw [blk_alloc_lt _ _ _ (by simp)]
    have := blk_alloc_new ((w.alloc (.cells (zeroRow 16384) 5)).alloc (.map #[] 0)) (.map #[] 0)
    rwa [nblk_alloc, nblk_alloc] at this
  box := by
    have := blk_alloc_new (((w.alloc (.cells (zeroRow 16384) 5)).alloc (.map #[] 0)).alloc (.map #[] 0)) (.cells #[.slice (some ⟨w.heap.size, 0, none⟩) 16384 16384, .map (some (w.heap.size + 1)), .map (some (w.heap.size + 1 + 1))] 57)
    rwa [nblk_alloc, nblk_alloc, nblk_alloc] at this

theorem ramOf_succ (i : Nat) (ws : Nat → Int) (j : Nat) : ramOf (i + 1) ws j = if 4 * i ≤ j ∧ j < 4 * i + 4 then Wb (ws i) (j - 4 * i) else ramOf i ws j := by
  unfold ramOf
  by_cases h : 4 * i ≤ j ∧ j < 4 * i + 4
  · rw [if_pos (by omega), if_pos h, show j / 4 = i by omega, show j % 4 = j - 4 * i by omega]
  · rw [if_neg h]
    by_cases h2 : j < 4 * i
    · rw [if_pos (by omega), if_pos h2]
    · rw [if_neg (by omega), if_neg h2]

theorem wb0 (v : Int) (h : v < 4294967296) (h0 : 0 ≤ v) : Wb v 0 = v / 16777216 := by simp [Wb]; omega
theorem cells4 (w : World) (v : Int) (T : TypeId) (j : Nat) (hj : j < 4) (h0 : 0 ≤ v) (h : v < 4294967296) :
    (w.alloc (.cells #[.int .u8 (v / 16777216), .int .u8 (v / 65536 % 256), .int .u8 (v / 256 % 256), .int .u8 (v % 256)] T)).cell? ((⟨w.heap.size, 0, none⟩ : Addr).add j) = some (.int .u8 (Wb v j)) := by
  rw [Addr.add_lit, Nat.zero_add, World.cell?_alloc_new]
  match j, hj with
  | 0, _ => rw [wb0 v h h0]; rfl
  | 1, _ => rfl
  | 2, _ => rfl
  | 3, _ => simp [Wb]

theorem NewRel.step {w wr w1 : World} {ws : Nat → Int} {i : Nat} (h : NewRel w wr ws i) {o : Obj}
    (hrow : w1.rowIs w.heap.size 5 16384 (fun j => if 4 * i ≤ j ∧ j < 4 * i + 4 then .int .u8 (Wb (ws i) (j - 4 * i)) else .int .u8 (ramOf i ws j)))
    (hk : Keeps (· = w.heap.size) (wr.alloc o) w1) : NewRel w w1 ws (i + 1) := by
  have hs := h.size
  have hk' : Keeps (· = w.heap.size) wr w1 := ((Keeps.refl (· = w.heap.size) wr).alloc o).trans hk (fun _ _ h => h)
  refine ⟨h.keeps.trans hk' (fun b hb e => by omega), by have := hk'.size; omega, hrow.congr (fun j _ => ?_), ?_, ?_, ?_⟩
  · rw [ramOf_succ]; split <;> rfl
  · exact (hk'.block _ (by omega) (by omega)).trans h.watch
  · exact (hk'.block _ (by omega) (by omega)).trans h.hits
  · exact (hk'.block _ (by omega) (by omega)).trans h.box

set_option maxRecDepth 100000 in
set_option maxHeartbeats 1000000 in
theorem new_some (len cap : Nat) (w : World) (ab ao : Nat) (ws : Nat → Int) (hl : len ≤ cap) (hc : cap ≤ 9223372036854775807) (n : Nat) (hn : n = min len 4096) (hab : ab < w.heap.size) (hw : ∀ i, i < len → w.cell? ⟨ab, ao + i, none⟩ = some (.int .u32 (ws i))) (hr : ∀ i, i < len → 0 ≤ ws i ∧ ws i < 4294967296) :
    Calls Tryz.prog 15 #[.slice (some ⟨ab, ao, none⟩) len cap] w fun e w' => e = .returned (.pointer (some ⟨w.heap.size + 3, 0, none⟩)) ∧ NewRel w w' ws n := by
  have hmk := make_ram
  have hmm := @run_makeMap Tryz.prog
  have HW := Lib.hid hw
  have HR := Lib.hid hr
  have hn4 : n ≤ 4096 := by omega
  have hnl : n ≤ len := by omega
  have HN := Lib.hid hn
  clear hw hr hn
  have hcase : n = len ∧ len ≤ 4096 ∨ n = 4096 ∧ 4096 < len := by have := HN.out; omega
  rcases hcase with ⟨h0, h4⟩ | ⟨h0, h4⟩
  all_goals subst h0
  all_goals
    go_enter Tryz.func15, Tryz.ntmps15
    go_wp2
  · go_loopw [17] (fun s17 wr => ∃ i : Nat, i ≤ n ∧ s17 = .int .i64 i ∧ NewRel w wr ws i) (fun s17 _ => n - (intOf s17).toNat)
    case atStart => exact ⟨0, Nat.zero_le _, rfl, newRel_start w ws⟩
    case round =>
      obtain ⟨i, hi, rfl, hN⟩ := hrel
      by_cases hlt : i < n
      · have hc1 := hN.keeps.cell' (HW.out i (by omega)) (fun x => x)
        obtain ⟨hr1, hr2⟩ := HR.out i (by omega)
        have hbx : wr.cell? ⟨w.heap.size + 1 + 1 + 1, 0, none⟩ = some (.slice (some ⟨w.heap.size, 0, none⟩) 16384 16384) := by simp [World.cell?, hN.box]
        have hsz := hN.size
        have hrow := hN.bytes.alloc (.cells #[.int .u8 (ws i / 16777216), .int .u8 (ws i / 65536 % 256), .int .u8 (ws i / 256 % 256), .int .u8 (ws i % 256)] 5)
        have HROW := Lib.hid hrow
        clear hrow
        go_wp2_with (refine wpList_copy_rowIs rfl (.tmp 28) (.tmp 40) 50 50 rfl 5 Tryz.underlying50 (by kernel_rfl) w.heap.size (4 * i) (16384 - 4 * i) (16384 - 4 * i) ⟨wr.heap.size, 0, none⟩ 4 4 rfl rfl 5 16384 _ HROW.out 4 (fun k => .int .u8 (Wb (ws i) k)) ?a1 ?a2 ?a3 ?a4 ?a5)
        case a1 => exact (Nat.min_eq_left (by omega)).symm
        case a2 => exact fun j hj => cells4 _ _ _ j hj hr1 hr2
        case a3 => omega
        case a4 => intro j _; rfl
        case a5 =>
          intro w1 hrow1 hk1
          go_wp2
          go_roundw
          case rel => exact ⟨i + 1, by omega, by go_num, hN.step hrow1 hk1⟩
          case measure => simp [intOf]; omega
      · obtain rfl : i = n := by omega
        go_wp2
        go_ret
        exact ⟨rfl, hN⟩
  · go_loopw [17] (fun s17 wr => ∃ i : Nat, i ≤ 4096 ∧ s17 = .int .i64 i ∧ NewRel w wr ws i) (fun s17 _ => 4096 - (intOf s17).toNat)
    case atStart => exact ⟨0, Nat.zero_le _, rfl, newRel_start w ws⟩
    case round =>
      obtain ⟨i, hi, rfl, hN⟩ := hrel
      by_cases hlt : i < 4096
      · have hc1 := hN.keeps.cell' (HW.out i (by omega)) (fun x => x)
        obtain ⟨hr1, hr2⟩ := HR.out i (by omega)
        have hbx : wr.cell? ⟨w.heap.size + 1 + 1 + 1, 0, none⟩ = some (.slice (some ⟨w.heap.size, 0, none⟩) 16384 16384) := by simp [World.cell?, hN.box]
        have hsz := hN.size
        have hrow := hN.bytes.alloc (.cells #[.int .u8 (ws i / 16777216), .int .u8 (ws i / 65536 % 256), .int .u8 (ws i / 256 % 256), .int .u8 (ws i % 256)] 5)
        have HROW := Lib.hid hrow
        clear hrow
        go_wp2_with (refine wpList_copy_rowIs rfl (.tmp 28) (.tmp 40) 50 50 rfl 5 Tryz.underlying50 (by kernel_rfl) w.heap.size (4 * i) (16384 - 4 * i) (16384 - 4 * i) ⟨wr.heap.size, 0, none⟩ 4 4 rfl rfl 5 16384 _ HROW.out 4 (fun k => .int .u8 (Wb (ws i) k)) ?a1 ?a2 ?a3 ?a4 ?a5)
        case a1 => exact (Nat.min_eq_left (by omega)).symm
        case a2 => exact fun j hj => cells4 _ _ _ j hj hr1 hr2
        case a3 => omega
        case a4 => intro j _; rfl
        case a5 =>
          intro w1 hrow1 hk1
          go_wp2
          go_roundw
          case rel => exact ⟨i + 1, by omega, by go_num, hN.step hrow1 hk1⟩
          case measure => simp [intOf]; omega
      · obtain rfl : i = 4096 := by omega
        go_wp2
        go_ret
        exact ⟨rfl, hN⟩

set_option maxRecDepth 100000 in
set_option maxHeartbeats 1000000 in
theorem new_nil (A : Option Addr) (w : World) (ws : Nat → Int) :
    Calls Tryz.prog 15 #[.slice A 0 0] w fun e w' => e = .returned (.pointer (some ⟨w.heap.size + 3, 0, none⟩)) ∧ NewRel w w' ws 0 := by
  have hmk := make_ram
  have hmm := @run_makeMap Tryz.prog
  go_enter Tryz.func15, Tryz.ntmps15
  go_wp2
  go_loopw [17] (fun s17 wr => s17 = .int .i64 0 ∧ NewRel w wr ws 0) (fun s17 _ => 0)
  case atStart => exact ⟨rfl, newRel_start w ws⟩
  case round =>
    obtain ⟨rfl, hN⟩ := hrel
    go_wp2
    go_ret
    exact ⟨rfl, hN⟩
end Go.Proofs.YtlbdkcnbgdmpaaaGreatDoor

/- Err -/
/- Where the errors' variables point. -/
namespace Go.Proofs.YtlbdkcnbgdmpaaaGreatDoor
open Go.RowKit
set_option linter.unusedVariables false

/-- the type *errors.errorString, and where the three errors' variables point -/
structure Errs3 (w : World) (ea : Nat → Addr) : Prop where
  shape : w.cell? ⟨0, 0, none⟩ = some (.iface 136 (.pointer (some (ea 3))))
  align : w.cell? ⟨1, 0, none⟩ = some (.iface 136 (.pointer (some (ea 9))))
  far : w.cell? ⟨2, 0, none⟩ = some (.iface 136 (.pointer (some (ea 10))))
theorem Errs3.keep {S : Nat → Prop} {w w' : World} {ea : Nat → Addr} (E : Errs3 w ea) (k : Keeps S w w') (h : ¬ S 0 ∧ ¬ S 1 ∧ ¬ S 2) : Errs3 w' ea :=
  ⟨k.cell' E.shape h.1, k.cell' E.align h.2.1, k.cell' E.far h.2.2⟩
/-- an error by its number -/
def errV (ea : Nat → Addr) (c : Nat) : Value := .iface 136 (.pointer (some (ea c)))
end Go.Proofs.YtlbdkcnbgdmpaaaGreatDoor

/- RamLoad -/
/- The walks of ram.right, word.Wide and (*Ram).Load. -/
namespace Go.Proofs.YtlbdkcnbgdmpaaaGreatDoor
open Go.RowKit Go.Deep
set_option linter.unusedVariables false

/-- the number of what 'right' answers -/
def rightC (a n : Int) : Nat := if n ≠ 1 ∧ n ≠ 2 ∧ n ≠ 4 then 3 else if a % n ≠ 0 then 9 else if 16384 ≤ a then 10 else 0

set_option maxHeartbeats 400000 in
theorem right_ok (a n : Int) (w : World) (ha : 0 ≤ a ∧ a < 4294967296) (h : rightC a n = 0) :
    Calls Tryz.prog 17 #[.int .u32 a, .int .i64 n] w fun e w' => e = .returned .nilIface ∧ w = w' := by
  have hn : n = 1 ∨ n = 2 ∨ n = 4 := by unfold rightC at h; split at h <;> omega
  have h1 : a % n = 0 := by
    unfold rightC at h
    rw [if_neg (by omega)] at h
    apply Classical.byContradiction
    intro hc
    rw [if_pos hc] at h
    omega
  have h2 : a < 16384 := by
    unfold rightC at h
    rw [if_neg (by omega), if_neg (by omega)] at h
    split at h <;> omega
  clear h
  rcases hn with rfl | rfl | rfl
  all_goals
    go_enter Tryz.func17, Tryz.ntmps17
    go_wp2
    go_ret
    exact ⟨rfl, rfl⟩
set_option maxHeartbeats 400000 in
theorem right_bad (a n : Int) (w : World) (ea : Nat → Addr) (E : Errs3 w ea) (ha : 0 ≤ a ∧ a < 4294967296) (h : rightC a n ≠ 0) :
    Calls Tryz.prog 17 #[.int .u32 a, .int .i64 n] w fun e w' => e = .returned (errV ea (rightC a n)) ∧ w = w' := by
  obtain ⟨e1, e2, e3⟩ := E
  by_cases hn : n ≠ 1 ∧ n ≠ 2 ∧ n ≠ 4
  · have hr : rightC a n = 3 := by rw [rightC, if_pos hn]
    rw [hr]
    have n1 : (n != 1) = true := by simpa using hn.1
    have n2 : (n != 2) = true := by simpa using hn.2.1
    have n4 : (n != 4) = true := by simpa using hn.2.2
    clear hn
    go_enter Tryz.func17, Tryz.ntmps17
    go_wp2
    go_ret
    exact ⟨rfl, rfl⟩
  · have hn' : n = 1 ∨ n = 2 ∨ n = 4 := by omega
    by_cases hm : a % n = 0
    · have hr : rightC a n = 10 := by
        unfold rightC at h ⊢
        rw [if_neg hn, if_neg (by omega)] at h ⊢
        split at h
        · rw [if_pos (by assumption)]
        · exact absurd rfl h
      have hf : 16384 ≤ a := by
        rw [rightC, if_neg hn, if_neg (by omega)] at hr
        split at hr <;> omega
      rw [hr]
      clear hn hr h
      rcases hn' with rfl | rfl | rfl
      all_goals
        go_enter Tryz.func17, Tryz.ntmps17
        go_wp2
        go_ret
        exact ⟨rfl, rfl⟩
    · have hr : rightC a n = 9 := by rw [rightC, if_neg hn, if_pos hm]
      rw [hr]
      clear hn hr h
      rcases hn' with rfl | rfl | rfl
      · exfalso; omega
      all_goals
        go_enter Tryz.func17, Tryz.ntmps17
        go_wp2
        go_ret
        exact ⟨rfl, rfl⟩

/-- n bytes from a on, the highest first -/
def be (m : Nat → Int) (a : Nat) : Nat → Int
  | 0 => 0
  | n + 1 => 256 * be m a n + m (a + n)

theorem rightC_ok {a n : Int} (h : rightC a n = 0) : (n = 1 ∨ n = 2 ∨ n = 4) ∧ a % n = 0 ∧ a < 16384 := by
  have hn : n = 1 ∨ n = 2 ∨ n = 4 := by unfold rightC at h; split at h <;> omega
  have h1 : a % n = 0 := by
    unfold rightC at h
    rw [if_neg (by omega)] at h
    apply Classical.byContradiction
    intro hc
    rw [if_pos hc] at h
    omega
  refine ⟨hn, h1, ?_⟩
  unfold rightC at h
  rw [if_neg (by omega), if_neg (by omega)] at h
  split at h <;> omega
theorem be_rng (m : Nat → Int) (a n : Nat) (hm : ∀ i, i < n → 0 ≤ m (a + i) ∧ m (a + i) < 256) : 0 ≤ be m a n ∧ be m a n < 256 ^ n := by
  induction n with
  | zero => exact ⟨Int.le_refl _, by show (0 : Int) < 256 ^ 0; decide⟩
  | succ n ih =>
    have h1 := ih fun i hi => hm i (by omega)
    have h2 := hm n (by omega)
    show 0 ≤ 256 * be m a n + m (a + n) ∧ 256 * be m a n + m (a + n) < 256 ^ (n + 1)
    rw [Int.pow_succ]
    omega

theorem or_byte (v b : Int) (h0 : 0 ≤ v) (h1 : v < 16777216) (h2 : 0 ≤ b) (h3 : b < 256) : bits .or .u32 (v * 256) b = 256 * v + b := by
  rw [u32_or _ _ (by omega) (by omega) (by omega) (by omega), nat_join 8 _ _ (by simp only [Nat.reducePow]; omega) (by simp only [Nat.reducePow]; omega)]
  omega

set_option maxRecDepth 100000 in
set_option maxHeartbeats 1000000 in
theorem load_ok (r pb pw ph cp : Nat) (m : Nat → Int) (a : Nat) (n : Nat) (s : Bool) (w : World) (R : RamAt w r pb pw ph cp m) (h : rightC a n = 0) :
    Calls Tryz.prog 35 #[.pointer (some ⟨r, 0, none⟩), .int .u32 a, .int .i64 n, .bool s] w fun e w' => e = .returned (.tuple #[.int .u32 (Wd.wide (be m a n) (8 * n) s), .nilIface]) ∧ w = w' := by
  obtain ⟨hn, hm, ha⟩ := rightC_ok h
  have ha' : a < 16384 := by omega
  have hn4 : n ≤ 4 := by omega
  have hn1 : 1 ≤ n := by omega
  have han : a + n ≤ 16384 := by
    have hn' : n = 1 ∨ n = 2 ∨ n = 4 := by omega
    rcases hn' with rfl | rfl | rfl <;> omega
  have hb : w.cell? ⟨r, 0, none⟩ = some (.slice (some ⟨pb, 0, none⟩) 16384 cp) := by simp [World.cell?, R.box]
  obtain ⟨hcp1, hcp2⟩ := R.room
  have HC := Lib.hid (fun i (hi : i < n) => R.bytes.cell (i := a + i) (by omega))
  have HG := Lib.hid (fun i (hi : i < n) => R.rng (a + i) (by omega))
  clear hn hm ha
  go_enter Tryz.func35, Tryz.ntmps35
  go_wp2_with fail
  refine (right_ok _ _ _ (by omega) h).mono ?_
  rintro e w' ⟨rfl, rfl⟩
  go_wp2_with fail
  go_loop [11, 13, 31] (fun s11 _ s31 => ∃ i : Nat, i ≤ n ∧ s31 = .int .i64 i ∧ s11 = .int .u32 (be m a i)) (fun _ _ s31 => n - (intOf s31).toNat)
  case atStart => exact ⟨0, Nat.zero_le _, rfl, rfl⟩
  case round =>
    obtain ⟨i, hi, rfl, rfl⟩ := hrel
    have hr := be_rng m a i (fun k hk => HG.out k (by omega))
    by_cases hlt : i < n
    · have hc := HC.out i hlt
      obtain ⟨g1, g2⟩ := HG.out i hlt
      have hpw : (256 : Int) ^ i ≤ 16777216 := by
        have hi4 : i = 0 ∨ i = 1 ∨ i = 2 ∨ i = 3 := by omega
        rcases hi4 with rfl | rfl | rfl | rfl <;> decide
      have hr2 := hr.2
      have HO := Lib.hid (or_byte (be m a i) (m (a + i)) hr.1 (by omega) g1 g2)
      go_wp2_with fail
      go_round
      case rel => exact ⟨i + 1, by omega, by go_num, by rw [HO.out]; rfl⟩
      case measure => simp [intOf]; omega
    · obtain rfl : i = n := by omega
      have hpw : (256 : Int) ^ i ≤ 4294967296 := by
        have hi4 : i = 1 ∨ i = 2 ∨ i = 3 ∨ i = 4 := by omega
        rcases hi4 with rfl | rfl | rfl | rfl <;> decide
      have hr2 := hr.2
      go_wp2_with fail
      refine (wide_any _ _ _ _ (by omega)).mono ?_
      rintro e w' ⟨rfl, rfl⟩
      go_wp2_with fail
      go_ret2
      exact ⟨rfl, rfl⟩

set_option maxRecDepth 100000 in
set_option maxHeartbeats 1000000 in
theorem load_bad (r : Addr) (a n : Int) (s : Bool) (w : World) (ea : Nat → Addr) (E : Errs3 w ea) (ha : 0 ≤ a ∧ a < 4294967296) (h : rightC a n ≠ 0) :
    Calls Tryz.prog 35 #[.pointer (some r), .int .u32 a, .int .i64 n, .bool s] w fun e w' => e = .returned (.tuple #[.int .u32 0, errV ea (rightC a n)]) ∧ w = w' := by
  go_enter Tryz.func35, Tryz.ntmps35
  go_wp2_with fail
  refine (right_bad _ _ _ ea E ha h).mono ?_
  rintro e w' ⟨rfl, rfl⟩
  unfold errV
  go_wp2_with fail
  go_ret2
  exact ⟨rfl, rfl⟩
end Go.Proofs.YtlbdkcnbgdmpaaaGreatDoor

/- RamStore -/
/- The walk of (*Ram).Store. -/
namespace Go.Proofs.YtlbdkcnbgdmpaaaGreatDoor
open Go.RowKit Go.Deep
set_option linter.unusedVariables false

/-- the byte that a store of n bytes lays at place i -/
def sb (v : Int) (n i : Nat) : Int := v / 2 ^ (8 * (n - 1 - i)) % 256
/-- memory behind a store of the first j of n bytes -/
def stTo (m : Nat → Int) (a n : Nat) (v : Int) (j : Nat) (k : Nat) : Int := if a ≤ k ∧ k < a + j then sb v n (k - a) else m k

theorem RamAt.congr {w : World} {r pb pw ph cp : Nat} {m m' : Nat → Int} (h : RamAt w r pb pw ph cp m) (e : ∀ i, i < 16384 → m i = m' i) : RamAt w r pb pw ph cp m' :=
  ⟨h.box, h.bytes.congr (fun i hi => by rw [e i hi]), h.room, fun i hi => by rw [← e i hi]; exact h.rng i hi, h.apart⟩
theorem RamAt.st0 {w : World} {r pb pw ph cp : Nat} {m : Nat → Int} {a n : Nat} {v : Int} (h : RamAt w r pb pw ph cp m) : RamAt w r pb pw ph cp (stTo m a n v 0) :=
  h.congr fun i _ => by rw [stTo, if_neg (by omega)]
theorem RamAt.stored {w wr : World} {r pb pw ph cp : Nat} {m : Nat → Int} {a n i : Nat} {v : Int} (h : RamAt wr r pb pw ph cp (stTo m a n v i)) (hi : i < n) (k : Keeps (· = pb) w wr) :
    RamAt ((wr.setCell ⟨pb, a + i, none⟩ (.int .u8 (sb v n i))).drew) r pb pw ph cp (stTo m a n v (i + 1)) ∧ Keeps (· = pb) w ((wr.setCell ⟨pb, a + i, none⟩ (.int .u8 (sb v n i))).drew) := by
  refine ⟨⟨?_, ?_, h.room, ?_, h.apart⟩, (k.setCell (a := ⟨pb, a + i, none⟩) (fun _ => rfl) _).drew⟩
  · exact (blk_setCell_other wr ⟨pb, a + i, none⟩ _ r h.apart.1).trans h.box
  · refine (RowTo.drew (h.bytes.set (a + i) _)).congr fun j hj => ?_
    by_cases e : j = a + i
    · subst e
      rw [if_pos rfl, stTo, if_pos (by omega), show a + i - a = i by omega]
    · rw [if_neg e]
      unfold stTo
      by_cases h1 : a ≤ j ∧ j < a + i
      · rw [if_pos h1, if_pos (by omega)]
      · rw [if_neg h1, if_neg (by omega)]
  · intro j hj
    have := h.rng j hj
    unfold stTo at this ⊢
    by_cases h1 : a ≤ j ∧ j < a + i
    · rw [if_pos h1] at this
      rw [if_pos (by omega)]; exact this
    · rw [if_neg h1] at this
      by_cases h2 : a ≤ j ∧ j < a + (i + 1)
      · rw [if_pos h2, sb]; omega
      · rw [if_neg h2]; exact this

set_option maxRecDepth 100000 in
set_option maxHeartbeats 1000000 in
theorem store_cold (r pb pw ph cp : Nat) (m : Nat → Int) (a : Nat) (n : Nat) (v : Int) (w : World) (R : RamAt w r pb pw ph cp m) (hv : 0 ≤ v ∧ v < 4294967296) (h : rightC a n = 0)
    (hk : ∀ w', Keeps (· = pb) w w' → (Instr.lookup 55 (.map (some pw)) (.int .i64 ((a : Int) / 256)) false).run Tryz.prog w' = .ok (.bool false) w') :
    Calls Tryz.prog 9 #[.pointer (some ⟨r, 0, none⟩), .int .u32 a, .int .i64 n, .int .u32 v] w fun e w' => e = .returned .nilIface ∧ RamAt w' r pb pw ph cp (stTo m a n v n) ∧ Keeps (· = pb) w w' := by
  obtain ⟨hn, hm, ha⟩ := rightC_ok h
  have ha' : a < 16384 := by omega
  have hn4 : n ≤ 4 := by omega
  have hn1 : 1 ≤ n := by omega
  have han : a + n ≤ 16384 := by
    have hn' : n = 1 ∨ n = 2 ∨ n = 4 := by omega
    rcases hn' with rfl | rfl | rfl <;> omega
  have HK := Lib.hid hk
  obtain ⟨hcp1, hcp2⟩ := R.room
  clear hn hm ha hk
  go_enter Tryz.func9, Tryz.ntmps9
  go_wp2_with fail
  refine (right_ok _ _ _ (by omega) h).mono ?_
  rintro e w' ⟨rfl, rfl⟩
  go_wp2_with fail
  go_loopw [19] (fun s19 wr => ∃ i : Nat, i ≤ n ∧ s19 = .int .i64 i ∧ RamAt wr r pb pw ph cp (stTo m a n v i) ∧ Keeps (· = pb) w wr) (fun s19 _ => n - (intOf s19).toNat)
  case atStart => exact ⟨0, Nat.zero_le _, rfl, R.st0, Keeps.refl _ _⟩
  case round =>
    obtain ⟨i, hi, rfl, hR, hS⟩ := hrel
    by_cases hlt : i < n
    · have hb : wr.cell? ⟨r, 0, none⟩ = some (.slice (some ⟨pb, 0, none⟩) 16384 cp) := by simp [World.cell?, hR.box]
      have hc := hR.bytes.cell (i := a + i) (by omega)
      have hf := hR.bytes.frozen (a + i)
      have q1 : IntKind.i64.wrap (a : Int) = a := IntWalk.i64_in _ (by omega)
      have q2 : IntKind.i64.wrap ((a : Int) + i) = a + i := IntWalk.i64_in _ (by omega)
      have q3 : IntKind.i64.wrap ((n : Int) - 1) = n - 1 := IntWalk.i64_in _ (by omega)
      have q4 : IntKind.i64.wrap ((n : Int) - 1 - i) = n - 1 - i := IntWalk.i64_in _ (by omega)
      have q5 : IntKind.i64.wrap (8 * ((n : Int) - 1 - i)) = 8 * (n - 1 - i) := IntWalk.i64_in _ (by omega)
      have q6 : 0 ≤ 8 * ((n : Int) - 1 - i) := by omega
      have q7 : 8 * ((n : Int) - 1 - i) ≤ 32 := by omega
      have q8 : ((a : Int) + i).toNat = a + i := by omega
      have q9 : (8 * ((n : Int) - 1 - i)).toNat = 8 * (n - 1 - i) := by omega
      have q10 : 0 ≤ (a : Int) + i := by omega
      have q11 : (a : Int) + i < 16384 := by omega
      go_wp2_with fail
      go_still_tail 17, (by kernel_rfl)
      change wpList _ _ _ _ _ wr.drew
      go_wp2
      go_roundw
      case rel => exact ⟨i + 1, by omega, by go_num, (hR.stored hlt hS).1, (hR.stored hlt hS).2⟩
      case measure => simp [intOf]; omega
    · obtain rfl : i = n := by omega
      have hb : wr.cell? ⟨r, 1, none⟩ = some (.map (some pw)) := by simp [World.cell?, hR.box]
      have hl := HK.out wr hS
      go_wp2
      go_ret
      exact ⟨rfl, hR, hS⟩
end Go.Proofs.YtlbdkcnbgdmpaaaGreatDoor

/- RamWords -/
/- The walks of (*Ram).Words, of a Store that is refused, and what an empty map answers. -/
namespace Go.Proofs.YtlbdkcnbgdmpaaaGreatDoor
open Go.RowKit Go.Deep
set_option linter.unusedVariables false

set_option maxHeartbeats 1000000 in
theorem store_bad (r : Addr) (a n v : Int) (w : World) (ea : Nat → Addr) (E : Errs3 w ea) (ha : 0 ≤ a ∧ a < 4294967296) (h : rightC a n ≠ 0) :
    Calls Tryz.prog 9 #[.pointer (some r), .int .u32 a, .int .i64 n, .int .u32 v] w fun e w' => e = .returned (errV ea (rightC a n)) ∧ w = w' := by
  go_enter Tryz.func9, Tryz.ntmps9
  go_wp2_with fail
  refine (right_bad _ _ _ ea E ha h).mono ?_
  rintro e w' ⟨rfl, rfl⟩
  unfold errV
  go_wp2_with fail
  go_ret
  exact ⟨rfl, rfl⟩

theorem int_key : Maps.Keyed Tryz.prog 3 := Maps.int_keyed Tryz.underlying3
theorem zero_bool (w : World) : (zeroValue 4).run Tryz.prog w = .ok (.bool false) w := by kernel_rfl
theorem look_empty (w : World) (b c : Nat) (p : Int) (hb : w.heap[b]? = some (.map #[] c)) (hp : (Lit.int .i64 p).wf = true) :
    (Instr.lookup 55 (.map (some b)) (.int .i64 p) false).run Tryz.prog w = .ok (.bool false) w := by
  have hk := Maps.keyOf_int_mk Tryz.underlying3 hp
  have F : WideElems.Fit (H := Unit) Tryz.prog 3 (fun _ => none) #[] c := ⟨by simp, MapKept.stamped_empty c, by simp⟩
  rcases Maps.fit_look false int_key Tryz.underlying55 (zero_bool w) hb F hk with ⟨h, _⟩ | ⟨e0, y, he, _⟩
  · exact h
  · simp at he

theorem Tryz.info_u32 : (Tryz.prog.info? 22).map (fun i => (i.zero, i.size, i.bytes)) = some (some (.int .u32 0), 1, 4) := by kernel_rfl
def zeroRow32 (n : Nat) : Array Value := madeCells #[.int .u32 0] n
theorem make_words (w : World) : (Instr.makeSlice 46 (.int .i64 4096) (.int .i64 4096)).run Tryz.prog w = .ok (.slice (some ⟨w.heap.size, 0, none⟩) 4096 4096) (w.alloc (.cells (zeroRow32 4096) 22)) :=
  run_make_row' (P := Tryz.prog) 46 22 (.int .u32 0) 4 Tryz.underlying46 Tryz.info_u32 rfl .i64 .i64 4096 (by omega) (by omega) w

theorem words_step {wr : World} {b : Nat} {T : TypeId} {m : Nat → Int} {i : Nat} {x : Int} (h : wr.rowIs b T 4096 (fun k => .int .u32 (be m (4 * k) (min 4 (i - 4 * k))))) (hx : x = 256 * be m (4 * (i / 4)) (i % 4) + m i) :
    (wr.setCell ⟨b, i / 4, none⟩ (.int .u32 x)).rowIs b T 4096 (fun k => .int .u32 (be m (4 * k) (min 4 (i + 1 - 4 * k)))) := by
  refine (h.set (i / 4) _).congr fun k hk => ?_
  by_cases e : k = i / 4
  · subst e
    rw [if_pos rfl, hx, show min 4 (i + 1 - 4 * (i / 4)) = i % 4 + 1 by omega]
    show _ = Value.int .u32 (256 * be m (4 * (i / 4)) (i % 4) + m (4 * (i / 4) + i % 4))
    rw [show 4 * (i / 4) + i % 4 = i by omega]
  · rw [if_neg e, show min 4 (i - 4 * k) = min 4 (i + 1 - 4 * k) by omega]

set_option maxRecDepth 100000 in
set_option maxHeartbeats 1000000 in
theorem words_any (r pb pw ph cp : Nat) (m : Nat → Int) (w : World) (R : RamAt w r pb pw ph cp m) :
    Calls Tryz.prog 31 #[.pointer (some ⟨r, 0, none⟩)] w fun e w' => e = .returned (.slice (some ⟨w.heap.size, 0, none⟩) 4096 4096) ∧ w'.rowIs w.heap.size 22 4096 (fun k => .int .u32 (be m (4 * k) 4)) ∧ Keeps (fun _ => False) w w' := by
  have hmk := make_words
  have hb : w.cell? ⟨r, 0, none⟩ = some (.slice (some ⟨pb, 0, none⟩) 16384 cp) := by simp [World.cell?, R.box]
  obtain ⟨hcp1, hcp2⟩ := R.room
  go_enter Tryz.func31, Tryz.ntmps31
  have hb' := cell_alloc hb (.cells (zeroRow32 4096) 22)
  go_wp2_with fail
  go_loopw [18] (fun s18 wr => ∃ i : Nat, i ≤ 16384 ∧ s18 = .int .i64 i ∧ wr.rowIs w.heap.size 22 4096 (fun k => .int .u32 (be m (4 * k) (min 4 (i - 4 * k)))) ∧ Keeps (fun _ => False) w wr) (fun s18 _ => 16384 - (intOf s18).toNat)
  case atStart => exact ⟨0, Nat.zero_le _, rfl, (World.rowIs_made w (.int .u32 0) 4096 22).congr (fun k _ => by simp [be]), (Keeps.refl _ w).alloc _⟩
  case round =>
    obtain ⟨i, hi, rfl, hrow, hS⟩ := hrel
    by_cases hlt : i < 16384
    · have hc := (hS.rowTo R.bytes (fun x => x)).cell (i := i) hlt
      obtain ⟨g1, g2⟩ := R.rng i hlt
      have hw := hrow.cell (i := i / 4) (by omega)
      have hf := hrow.frozen (i / 4)
      rw [show min 4 (i - 4 * (i / 4)) = i % 4 by omega] at hw
      have hr := be_rng m (4 * (i / 4)) (i % 4) (fun k hk => R.rng _ (by omega))
      have hp : (256 : Int) ^ (i % 4) ≤ 16777216 := by
        have hi4 : i % 4 = 0 ∨ i % 4 = 1 ∨ i % 4 = 2 ∨ i % 4 = 3 := by omega
        rcases hi4 with h | h | h | h <;> rw [h] <;> decide
      have hr1 := hr.1
      have hr2 : be m (4 * (i / 4)) (i % 4) < 16777216 := by omega
      clear hp hr
      have HO := Lib.hid (or_byte (be m (4 * (i / 4)) (i % 4)) (m i) hr1 hr2 g1 g2)
      go_wp2
      go_roundw
      case rel => exact ⟨i + 1, by omega, by go_num, words_step hrow HO.out, hS.setCell (a := ⟨w.heap.size, i / 4, none⟩) (fun h => absurd h (Nat.lt_irrefl _)) _⟩
      case measure => simp [intOf]; omega
    · obtain rfl : i = 16384 := by omega
      go_wp2
      go_ret
      exact ⟨rfl, hrow.congr (fun k hk => by rw [show min 4 (16384 - 4 * k) = 4 by omega]), hS⟩
end Go.Proofs.YtlbdkcnbgdmpaaaGreatDoor

/- Ref -/
/- The reference's memory as it lies; the walks of its ReachError, NewRam, at, put. -/
namespace Go.Proofs.YtlbdkcnbgdmpaaaGreatDoor
open Go.RowKit Go.Deep
set_option linter.unusedVariables false

theorem Tryz.info_bool : (Tryz.prog.info? 4).map (fun i => (i.zero, i.size, i.bytes)) = some (some (.bool false), 1, 1) := by kernel_rfl
/-- rows that are made -/
def falseRow (n : Nat) : Array Value := madeCells #[.bool false] n
theorem make_bools (w : World) : (Instr.makeSlice 61 (.int .i64 64) (.int .i64 64)).run Tryz.prog w = .ok (.slice (some ⟨w.heap.size, 0, none⟩) 64 64) (w.alloc (.cells (falseRow 64) 4)) :=
  run_make_row' (P := Tryz.prog) 61 4 (.bool false) 1 Tryz.underlying61 Tryz.info_bool rfl .i64 .i64 64 (by omega) (by omega) w
theorem be4 (m : Nat → Int) (a : Nat) : be m a 4 = 16777216 * m a + 65536 * m (a + 1) + 256 * m (a + 2) + m (a + 3) := by
  simp only [be, Nat.add_zero]
  omega

/-- the reference's memory: its words are m's bytes -/
structure RefW (w : World) (q wb tb hb : Nat) (wd : Nat → Int) (wt ht : Nat → Bool) : Prop where
  box : w.heap[q]? = some (.cells #[.slice (some ⟨wb, 0, none⟩) 4096 4096, .slice (some ⟨tb, 0, none⟩) 64 64, .slice (some ⟨hb, 0, none⟩) 64 64] 63 (0, 0))
  words : RowTo w wb 22 4096 (fun i => .int .u32 (wd i))
  watch : RowTo w tb 4 64 (fun i => .bool (wt i))
  hit : RowTo w hb 4 64 (fun i => .bool (ht i))
  apart : q ≠ wb ∧ q ≠ tb ∧ q ≠ hb ∧ wb ≠ tb ∧ wb ≠ hb ∧ tb ≠ hb
structure RefAt (w : World) (q wb tb hb : Nat) (m : Nat → Int) (wt ht : Nat → Bool) : Prop where
  raw : RefW w q wb tb hb (fun i => be m (4 * i) 4) wt ht
  rng : ∀ i, i < 16384 → 0 ≤ m i ∧ m i < 256
theorem RefW.keep {w w' : World} {q wb tb hb : Nat} {wd : Nat → Int} {wt ht : Nat → Bool} {S : Nat → Prop} (h : RefW w q wb tb hb wd wt ht) (k : Keeps S w w') (h1 : ¬ S q ∧ ¬ S wb ∧ ¬ S tb ∧ ¬ S hb) : RefW w' q wb tb hb wd wt ht :=
  ⟨(k.block q (Array.getElem?_eq_some_iff.1 h.box).1 h1.1).trans h.box, k.rowTo h.words h1.2.1, k.rowTo h.watch h1.2.2.1, k.rowTo h.hit h1.2.2.2, h.apart⟩
theorem RefAt.keep {w w' : World} {q wb tb hb : Nat} {m : Nat → Int} {wt ht : Nat → Bool} {S : Nat → Prop} (h : RefAt w q wb tb hb m wt ht) (k : Keeps S w w') (h1 : ¬ S q ∧ ¬ S wb ∧ ¬ S tb ∧ ¬ S hb) : RefAt w' q wb tb hb m wt ht :=
  ⟨h.raw.keep k h1, h.rng⟩
theorem RefW.congr {w : World} {q wb tb hb : Nat} {wd wd' : Nat → Int} {wt ht : Nat → Bool} (h : RefW w q wb tb hb wd wt ht) (e : ∀ i, i < 4096 → wd i = wd' i) : RefW w q wb tb hb wd' wt ht :=
  ⟨h.box, h.words.congr (fun i hi => by rw [e i hi]), h.watch, h.hit, h.apart⟩
theorem RefAt.congr {w : World} {q wb tb hb : Nat} {m m' : Nat → Int} {wt ht : Nat → Bool} (h : RefAt w q wb tb hb m wt ht) (e : ∀ i, i < 16384 → m i = m' i) : RefAt w q wb tb hb m' wt ht :=
  ⟨h.raw.congr (fun i hi => by rw [be4, be4, e _ (by omega), e _ (by omega), e _ (by omega), e _ (by omega)]), fun i hi => by rw [← e i hi]; exact h.rng i hi⟩

set_option maxHeartbeats 400000 in
theorem reach_any (a n : Int) (w : World) (ha : 0 ≤ a ∧ a < 4294967296) (hn : (Lit.int .i64 n).wf = true) :
    Calls Tryz.prog 18 #[.int .u32 a, .int .i64 n] w fun e w' => e = .returned (.int .i64 (rightC a n)) ∧ w = w' := by
  by_cases hs : n ≠ 1 ∧ n ≠ 2 ∧ n ≠ 4
  · have hr : rightC a n = 3 := by rw [rightC, if_pos hs]
    rw [hr]
    have n1 : (n != 1) = true := by simpa using hs.1
    have n2 : (n != 2) = true := by simpa using hs.2.1
    have n4 : (n != 4) = true := by simpa using hs.2.2
    clear hs hr
    go_enter Tryz.func18, Tryz.ntmps18
    go_wp2
    go_ret
    exact ⟨rfl, rfl⟩
  · have hn' : n = 1 ∨ n = 2 ∨ n = 4 := by omega
    have hr : rightC a n = if a % n ≠ 0 then 9 else if 16384 ≤ a then 10 else 0 := by rw [rightC, if_neg hs]
    have HR := Lib.hid hr
    clear hs hr
    by_cases hf : 16384 ≤ a
    all_goals
      rcases hn' with rfl | rfl | rfl
      all_goals
        go_enter Tryz.func18, Tryz.ntmps18
        go_wp2
        all_goals
          go_ret
          refine ⟨ret_i ?_, rfl⟩
          rw [HR.out]
          simp only [bne_iff_ne, ne_eq, bne_eq_false_iff_eq] at *
          split <;> (try split) <;> first | rfl | (exfalso; omega)

/-- the byte at a place, out of its word -/
theorem byte_of (m : Nat → Int) (a : Nat) (h : ∀ i, i < 4 → 0 ≤ m (4 * (a / 4) + i) ∧ m (4 * (a / 4) + i) < 256) : be m (4 * (a / 4)) 4 / 2 ^ (24 - 8 * ((a : Int) % 4)).toNat % 2 ^ (8 : Int).toNat = m a := by
  have h0 := h 0 (by omega)
  have h1 := h 1 (by omega)
  have h2 := h 2 (by omega)
  have h3 := h 3 (by omega)
  rw [be4]
  rw [Nat.add_zero] at h0
  have hr : a % 4 = 0 ∨ a % 4 = 1 ∨ a % 4 = 2 ∨ a % 4 = 3 := by omega
  rcases hr with hr | hr | hr | hr
  · have e : a = 4 * (a / 4) := by omega
    have e1 : (24 - 8 * ((a : Int) % 4)).toNat = 24 := by omega
    have e2 : m a = m (4 * (a / 4)) := congrArg m e
    rw [e1, e2]
    show _ / (16777216 : Int) % 256 = _
    omega
  · have e : a = 4 * (a / 4) + 1 := by omega
    have e1 : (24 - 8 * ((a : Int) % 4)).toNat = 16 := by omega
    have e2 : m a = m (4 * (a / 4) + 1) := congrArg m e
    rw [e1, e2]
    show _ / (65536 : Int) % 256 = _
    omega
  · have e : a = 4 * (a / 4) + 2 := by omega
    have e1 : (24 - 8 * ((a : Int) % 4)).toNat = 8 := by omega
    have e2 : m a = m (4 * (a / 4) + 2) := congrArg m e
    rw [e1, e2]
    show _ / (256 : Int) % 256 = _
    omega
  · have e : a = 4 * (a / 4) + 3 := by omega
    have e1 : (24 - 8 * ((a : Int) % 4)).toNat = 0 := by omega
    have e2 : m a = m (4 * (a / 4) + 3) := congrArg m e
    rw [e1, e2]
    show _ / (1 : Int) % 256 = _
    omega

set_option maxRecDepth 100000 in
set_option maxHeartbeats 1000000 in
theorem refAt_any (q wb tb hb : Nat) (m : Nat → Int) (wt ht : Nat → Bool) (a : Nat) (w : World) (R : RefAt w q wb tb hb m wt ht) (ha : a < 16384) :
    Calls Tryz.prog 33 #[.pointer (some ⟨q, 0, none⟩), .int .i64 a] w fun e w' => e = .returned (.int .u8 (m a)) ∧ w = w' := by
  have hb0 : w.cell? ⟨q, 0, none⟩ = some (.slice (some ⟨wb, 0, none⟩) 4096 4096) := by simp [World.cell?, R.raw.box]
  have hc := R.raw.words.cell (i := a / 4) (by omega)
  have hw := be_rng m (4 * (a / 4)) 4 (fun i hi => R.rng _ (by omega))
  have HB := Lib.hid (byte_of m a (fun i hi => R.rng _ (by omega)))
  have hm := R.rng a ha
  have hw2 : be m (4 * (a / 4)) 4 < 4294967296 := hw.2
  have hw1 := hw.1
  clear hw
  generalize be m (4 * (a / 4)) 4 = x at *
  have q1 : ((a : Int) / 4).toNat = a / 4 := by omega
  go_enter Tryz.func33, Tryz.ntmps33
  go_wp2_with fail
  refine (part_any x (24 - 8 * ((a : Int) % 4)) 8 _ ⟨hw1, hw2⟩ (by omega) (by omega)).mono ?_
  rintro e w' ⟨rfl, rfl⟩
  rw [HB.out]
  go_wp2_with fail
  go_ret
  exact ⟨ret_i (by omega), rfl⟩
end Go.Proofs.YtlbdkcnbgdmpaaaGreatDoor
