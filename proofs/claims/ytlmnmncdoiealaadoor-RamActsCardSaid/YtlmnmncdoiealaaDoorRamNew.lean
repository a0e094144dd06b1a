
/- The walk of ram.New. -/
import Derived.Test.YtlmnmncdoiealaaDoorRows
import Derived.Test.YtlmnmncdoiealaaDoorMem
import Derived.WalkSpells
import Derived.WalkLawsBesides
import Derived.BigQuiet
import Derived.Laws.CopyOwn
import Derived.Lib.Hide
namespace Go.Proofs.YtlmnmncdoiealaaDoor
open Go.RowKit Go.Deep
set_option linter.unusedVariables false

theorem Tryd.info_byte : (Tryd.prog.info? 5).map (fun i => (i.zero, i.size, i.bytes)) = some (some (.int .u8 0), 1, 1) := by kernel_rfl

/-- the cells that memory begins with -/
def zeroRow (n : Nat) : Array Value := madeCells #[.int .u8 0] n
theorem make_ram (w : World) : (Instr.makeSlice 83 (.int .i64 16384) (.int .i64 16384)).run Tryd.prog w = .ok (.slice (some ⟨w.heap.size, 0, none⟩) 16384 16384) (w.alloc (.cells (zeroRow 16384) 5)) :=
  run_make_row' (P := Tryd.prog) 83 5 (.int .u8 0) 1 Tryd.underlying83 Tryd.info_byte rfl .i64 .i64 16384 (by omega) (by omega) w

/-- byte k of a word, the highest first -/
def Wb (v : Int) (k : Nat) : Int := v / 2 ^ (8 * (3 - k)) % 256
/-- the bytes of memory that begins with n words -/
def ramOf (n : Nat) (ws : Nat → Int) (j : Nat) : Int := if j < 4 * n then Wb (ws (j / 4)) (j % 4) else 0

/-- A Ram LIES AT BLOCK r: its bytes in block pb, its maps in pw and ph -/
structure RamAt (w : World) (r pb pw ph cp : Nat) (m : Nat → Int) : Prop where
  box : w.heap[r]? = some (.cells #[.slice (some ⟨pb, 0, none⟩) 16384 cp, .map (some pw), .map (some ph)] 86 (0, 0))
  bytes : RowTo w pb 5 16384 (fun i => .int .u8 (m i))
  room : 16384 ≤ cp ∧ cp ≤ 9223372036854775807
  rng : ∀ i, i < 16384 → 0 ≤ m i ∧ m i < 256
  apart : r ≠ pb ∧ r ≠ pw ∧ r ≠ ph ∧ pb ≠ pw ∧ pb ≠ ph ∧ pw ≠ ph
theorem RamAt.keep {w w' : World} {r pb pw ph cp : Nat} {m : Nat → Int} {S : Nat → Prop} (h : RamAt w r pb pw ph cp m) (k : Keeps S w w') (hr : ¬ S r) (hb : ¬ S pb) : RamAt w' r pb pw ph cp m :=
  ⟨(k.block r (Array.getElem?_eq_some_iff.1 h.box).1 hr).trans h.box, k.rowTo h.bytes hb, h.room, h.rng, h.apart⟩

/-- where New stands when i words are laid -/
structure NewRel (w wr : World) (ws : Nat → Int) (i : Nat) : Prop where
  keeps : Keeps (fun _ => False) w wr
  size : w.heap.size + 3 < wr.heap.size
  bytes : wr.rowIs w.heap.size 5 16384 (fun j => .int .u8 (ramOf i ws j))
  watch : wr.heap[w.heap.size + 1]? = some (.map #[] 0)
  hits : wr.heap[w.heap.size + 2]? = some (.map #[] 0)
  box : wr.heap[w.heap.size + 3]? = some (.cells #[.slice (some ⟨w.heap.size, 0, none⟩) 16384 16384, .map (some (w.heap.size + 1)), .map (some (w.heap.size + 2))] 86 (0, 0))

theorem newRel_start (w : World) (ws : Nat → Int) : NewRel w ((((w.alloc (.cells (zeroRow 16384) 5)).alloc (.map #[] 0)).alloc (.map #[] 0)).alloc (.cells #[.slice (some ⟨w.heap.size, 0, none⟩) 16384 16384, .map (some (w.heap.size + 1)), .map (some (w.heap.size + 1 + 1))] 86)) ws 0 where
  keeps := ((((Keeps.refl _ w).alloc _).alloc _).alloc _).alloc _
  size := by simp
  bytes := ((((World.rowIs_made w (.int .u8 0) 16384 5).alloc _).alloc _).alloc _).congr (fun i _ => by simp [ramOf])
  watch := by
    rw [blk_alloc_lt _ _ _ (by simp), blk_alloc_lt _ _ _ (by simp)]
    have := blk_alloc_new (w.alloc (.cells (zeroRow 16384) 5)) (.map #[] 0)
    rwa [nblk_alloc] at this
  hits := by
    rw [blk_alloc_lt _ _ _ (by simp)]
    have := blk_alloc_new ((w.alloc (.cells (zeroRow 16384) 5)).alloc (.map #[] 0)) (.map #[] 0)
    rwa [nblk_alloc, nblk_alloc] at this
  box := by
    have := blk_alloc_new (((w.alloc (.cells (zeroRow 16384) 5)).alloc (.map #[] 0)).alloc (.map #[] 0)) (.cells #[.slice (some ⟨w.heap.size, 0, none⟩) 16384 16384, .map (some (w.heap.size + 1)), .map (some (w.heap.size + 1 + 1))] 86)
    rwa [nblk_alloc, nblk_alloc, nblk_alloc] at this

theorem ramOf_succ (i : Nat) (ws : Nat → Int) (j : Nat) : ramOf (i + 1) ws j = if 4 * i ≤ j ∧ j < 4 * i + 4 then Wb (ws i) (j - 4 * i) else ramOf i ws j := by
  unfold ramOf
  by_cases h : 4 * i ≤ j ∧ j < 4 * i + 4
  · rw [if_pos (by omega), if_pos h, show j / 4 = i by omega, show j % 4 = j - 4 * i by omega]
  · rw [if_neg h]
    by_cases h2 : j < 4 * i
    · rw [if_pos (by omega), if_pos h2]
    · rw [if_neg (by omega), if_neg h2]

theorem wb0 (v : Int) (h : v < 4294967296) (h0 : 0 ≤ v) : Wb v 0 = v / 16777216 := by simp [Wb]; omega
theorem cells4 (w : World) (v : Int) (T : TypeId) (j : Nat) (hj : j < 4) (h0 : 0 ≤ v) (h : v < 4294967296) :
    (w.alloc (.cells #[.int .u8 (v / 16777216), .int .u8 (v / 65536 % 256), .int .u8 (v / 256 % 256), .int .u8 (v % 256)] T)).cell? ((⟨w.heap.size, 0, none⟩ : Addr).add j) = some (.int .u8 (Wb v j)) := by
  rw [Addr.add_lit, Nat.zero_add, World.cell?_alloc_new]
  match j, hj with
  | 0, _ => rw [wb0 v h h0]; rfl
  | 1, _ => rfl
  | 2, _ => rfl
  | 3, _ => simp [Wb]

theorem NewRel.step {w wr w1 : World} {ws : Nat → Int} {i : Nat} (h : NewRel w wr ws i) {o : Obj}
    (hrow : w1.rowIs w.heap.size 5 16384 (fun j => if 4 * i ≤ j ∧ j < 4 * i + 4 then .int .u8 (Wb (ws i) (j - 4 * i)) else .int .u8 (ramOf i ws j)))
    (hk : Keeps (· = w.heap.size) (wr.alloc o) w1) : NewRel w w1 ws (i + 1) := by
  have hs := h.size
  have hk' : Keeps (· = w.heap.size) wr w1 := ((Keeps.refl (· = w.heap.size) wr).alloc o).trans hk (fun _ _ h => h)
  refine ⟨h.keeps.trans hk' (fun b hb e => by omega), by have := hk'.size; omega, hrow.congr (fun j _ => ?_), ?_, ?_, ?_⟩
  · rw [ramOf_succ]; split <;> rfl
  · exact (hk'.block _ (by omega) (by omega)).trans h.watch
  · exact (hk'.block _ (by omega) (by omega)).trans h.hits
  · exact (hk'.block _ (by omega) (by omega)).trans h.box

set_option maxRecDepth 100000 in
set_option maxHeartbeats 1000000 in
theorem new_some (len cap : Nat) (w : World) (ab ao : Nat) (ws : Nat → Int) (hl : len ≤ cap) (hc : cap ≤ 9223372036854775807) (n : Nat) (hn : n = min len 4096) (hab : ab < w.heap.size) (hw : ∀ i, i < len → w.cell? ⟨ab, ao + i, none⟩ = some (.int .u32 (ws i))) (hr : ∀ i, i < len → 0 ≤ ws i ∧ ws i < 4294967296) :
    Calls Tryd.prog 12 #[.slice (some ⟨ab, ao, none⟩) len cap] w fun e w' => e = .returned (.pointer (some ⟨w.heap.size + 3, 0, none⟩)) ∧ NewRel w w' ws n := by
  have hmk := make_ram
  have hmm := @run_makeMap Tryd.prog
  have HW := Lib.hid hw
  have HR := Lib.hid hr
  have hn4 : n ≤ 4096 := by omega
  have hnl : n ≤ len := by omega
  have HN := Lib.hid hn
  clear hw hr hn
  have hcase : n = len ∧ len ≤ 4096 ∨ n = 4096 ∧ 4096 < len := by have := HN.out; omega
  rcases hcase with ⟨h0, h4⟩ | ⟨h0, h4⟩
  all_goals subst h0
  all_goals
    go_enter Tryd.func12, Tryd.ntmps12
    go_wp2
  · go_loopw [17] (fun s17 wr => ∃ i : Nat, i ≤ n ∧ s17 = .int .i64 i ∧ NewRel w wr ws i) (fun s17 _ => n - (intOf s17).toNat)
    case atStart => exact ⟨0, Nat.zero_le _, rfl, newRel_start w ws⟩
    case round =>
      obtain ⟨i, hi, rfl, hN⟩ := hrel
      by_cases hlt : i < n
      · have hc1 := hN.keeps.cell' (HW.out i (by omega)) (fun x => x)
        obtain ⟨hr1, hr2⟩ := HR.out i (by omega)
        have hbx : wr.cell? ⟨w.heap.size + 1 + 1 + 1, 0, none⟩ = some (.slice (some ⟨w.heap.size, 0, none⟩) 16384 16384) := by simp [World.cell?, hN.box]
        have hsz := hN.size
        have hrow := hN.bytes.alloc (.cells #[.int .u8 (ws i / 16777216), .int .u8 (ws i / 65536 % 256), .int .u8 (ws i / 256 % 256), .int .u8 (ws i % 256)] 5)
        have HROW := Lib.hid hrow
        clear hrow
        go_wp2_with (refine wpList_copy_rowIs rfl (.tmp 28) (.tmp 40) 83 83 rfl 5 Tryd.underlying83 (by kernel_rfl) w.heap.size (4 * i) (16384 - 4 * i) (16384 - 4 * i) ⟨wr.heap.size, 0, none⟩ 4 4 rfl rfl 5 16384 _ HROW.out 4 (fun k => .int .u8 (Wb (ws i) k)) ?a1 ?a2 ?a3 ?a4 ?a5)
        case a1 => exact (Nat.min_eq_left (by omega)).symm
        case a2 => exact fun j hj => cells4 _ _ _ j hj hr1 hr2
        case a3 => omega
        case a4 => intro j _; rfl
        case a5 =>
          intro w1 hrow1 hk1
          go_wp2
          go_roundw
          case rel => exact ⟨i + 1, by omega, by go_num, hN.step hrow1 hk1⟩
          case measure => simp [intOf]; omega
      · obtain rfl : i = n := by omega
        go_wp2
        go_ret
        exact ⟨rfl, hN⟩
  · go_loopw [17] (fun s17 wr => ∃ i : Nat, i ≤ 4096 ∧ s17 = .int .i64 i ∧ NewRel w wr ws i) (fun s17 _ => 4096 - (intOf s17).toNat)
    case atStart => exact ⟨0, Nat.zero_le _, rfl, newRel_start w ws⟩
    case round =>
      obtain ⟨i, hi, rfl, hN⟩ := hrel
      by_cases hlt : i < 4096
      · have hc1 := hN.keeps.cell' (HW.out i (by omega)) (fun x => x)
        obtain ⟨hr1, hr2⟩ := HR.out i (by omega)
        have hbx : wr.cell? ⟨w.heap.size + 1 + 1 + 1, 0, none⟩ = some (.slice (some ⟨w.heap.size, 0, none⟩) 16384 16384) := by simp [World.cell?, hN.box]
        have hsz := hN.size
        have hrow := hN.bytes.alloc (.cells #[.int .u8 (ws i / 16777216), .int .u8 (ws i / 65536 % 256), .int .u8 (ws i / 256 % 256), .int .u8 (ws i % 256)] 5)
        have HROW := Lib.hid hrow
        clear hrow
        go_wp2_with (refine wpList_copy_rowIs rfl (.tmp 28) (.tmp 40) 83 83 rfl 5 Tryd.underlying83 (by kernel_rfl) w.heap.size (4 * i) (16384 - 4 * i) (16384 - 4 * i) ⟨wr.heap.size, 0, none⟩ 4 4 rfl rfl 5 16384 _ HROW.out 4 (fun k => .int .u8 (Wb (ws i) k)) ?a1 ?a2 ?a3 ?a4 ?a5)
        case a1 => exact (Nat.min_eq_left (by omega)).symm
        case a2 => exact fun j hj => cells4 _ _ _ j hj hr1 hr2
        case a3 => omega
        case a4 => intro j _; rfl
        case a5 =>
          intro w1 hrow1 hk1
          go_wp2
          go_roundw
          case rel => exact ⟨i + 1, by omega, by go_num, hN.step hrow1 hk1⟩
          case measure => simp [intOf]; omega
      · obtain rfl : i = 4096 := by omega
        go_wp2
        go_ret
        exact ⟨rfl, hN⟩

set_option maxRecDepth 100000 in
set_option maxHeartbeats 1000000 in
theorem new_nil (A : Option Addr) (w : World) (ws : Nat → Int) :
    Calls Tryd.prog 12 #[.slice A 0 0] w fun e w' => e = .returned (.pointer (some ⟨w.heap.size + 3, 0, none⟩)) ∧ NewRel w w' ws 0 := by
  have hmk := make_ram
  have hmm := @run_makeMap Tryd.prog
  go_enter Tryd.func12, Tryd.ntmps12
  go_wp2
  go_loopw [17] (fun s17 wr => s17 = .int .i64 0 ∧ NewRel w wr ws 0) (fun s17 _ => 0)
  case atStart => exact ⟨rfl, newRel_start w ws⟩
  case round =>
    obtain ⟨rfl, hN⟩ := hrel
    go_wp2
    go_ret
    exact ⟨rfl, hN⟩
end Go.Proofs.YtlmnmncdoiealaaDoor
