import Derived.Test.YtlmnmncdoiealaaDoorKdz02
import Derived.Test.YtlmnmncdoiealaaDoorWide
import Derived.Test.YtlmnmncdoiealaaDoorErr
import Derived.Laws.BitsAllLaws
import Derived.StillTailTactics
import Derived.Maps.OwnOps

/- RamLoad -/
/- The walks of ram.right, word.Wide and (*Ram).Load. -/
namespace Go.Proofs.YtlmnmncdoiealaaDoor
open Go.RowKit Go.Deep
set_option linter.unusedVariables false

/-- the number of what 'right' answers -/
def rightC (a n : Int) : Nat := if n ≠ 1 ∧ n ≠ 2 ∧ n ≠ 4 then 3 else if a % n ≠ 0 then 9 else if 16384 ≤ a then 10 else 0

set_option maxHeartbeats 400000 in
theorem right_ok (a n : Int) (w : World) (ha : 0 ≤ a ∧ a < 4294967296) (h : rightC a n = 0) :
    Calls Tryd.prog 38 #[.int .u32 a, .int .i64 n] w fun e w' => e = .returned .nilIface ∧ w = w' := by
  have hn : n = 1 ∨ n = 2 ∨ n = 4 := by unfold rightC at h; split at h <;> omega
  have h1 : a % n = 0 := by
    unfold rightC at h
    rw [if_neg (by omega)] at h
    apply Classical.byContradiction
    intro hc
    rw [if_pos hc] at h
    omega
  have h2 : a < 16384 := by
    unfold rightC at h
    rw [if_neg (by omega), if_neg (by omega)] at h
    split at h <;> omega
  clear h
  rcases hn with rfl | rfl | rfl
  all_goals
    go_enter Tryd.func38, Tryd.ntmps38
    go_wp2
    go_ret
    exact ⟨rfl, rfl⟩
set_option maxHeartbeats 400000 in
theorem right_bad (a n : Int) (w : World) (ea : Nat → Addr) (E : Errs3 w ea) (ha : 0 ≤ a ∧ a < 4294967296) (h : rightC a n ≠ 0) :
    Calls Tryd.prog 38 #[.int .u32 a, .int .i64 n] w fun e w' => e = .returned (errV ea (rightC a n)) ∧ w = w' := by
  obtain ⟨e1, e2, e3⟩ := E
  by_cases hn : n ≠ 1 ∧ n ≠ 2 ∧ n ≠ 4
  · have hr : rightC a n = 3 := by rw [rightC, if_pos hn]
    rw [hr]
    have n1 : (n != 1) = true := by simpa using hn.1
    have n2 : (n != 2) = true := by simpa using hn.2.1
    have n4 : (n != 4) = true := by simpa using hn.2.2
    clear hn
    go_enter Tryd.func38, Tryd.ntmps38
    go_wp2
    go_ret
    exact ⟨rfl, rfl⟩
  · have hn' : n = 1 ∨ n = 2 ∨ n = 4 := by omega
    by_cases hm : a % n = 0
    · have hr : rightC a n = 10 := by
        unfold rightC at h ⊢
        rw [if_neg hn, if_neg (by omega)] at h ⊢
        split at h
        · rw [if_pos (by assumption)]
        · exact absurd rfl h
      have hf : 16384 ≤ a := by
        rw [rightC, if_neg hn, if_neg (by omega)] at hr
        split at hr <;> omega
      rw [hr]
      clear hn hr h
      rcases hn' with rfl | rfl | rfl
      all_goals
        go_enter Tryd.func38, Tryd.ntmps38
        go_wp2
        go_ret
        exact ⟨rfl, rfl⟩
    · have hr : rightC a n = 9 := by rw [rightC, if_neg hn, if_pos hm]
      rw [hr]
      clear hn hr h
      rcases hn' with rfl | rfl | rfl
      · exfalso; omega
      all_goals
        go_enter Tryd.func38, Tryd.ntmps38
        go_wp2
        go_ret
        exact ⟨rfl, rfl⟩

/-- n bytes from a on, the highest first -/
def be (m : Nat → Int) (a : Nat) : Nat → Int
  | 0 => 0
  | n + 1 => 256 * be m a n + m (a + n)

theorem rightC_ok {a n : Int} (h : rightC a n = 0) : (n = 1 ∨ n = 2 ∨ n = 4) ∧ a % n = 0 ∧ a < 16384 := by
  have hn : n = 1 ∨ n = 2 ∨ n = 4 := by unfold rightC at h; split at h <;> omega
  have h1 : a % n = 0 := by
    unfold rightC at h
    rw [if_neg (by omega)] at h
    apply Classical.byContradiction
    intro hc
    rw [if_pos hc] at h
    omega
  refine ⟨hn, h1, ?_⟩
  unfold rightC at h
  rw [if_neg (by omega), if_neg (by omega)] at h
  split at h <;> omega
theorem be_rng (m : Nat → Int) (a n : Nat) (hm : ∀ i, i < n → 0 ≤ m (a + i) ∧ m (a + i) < 256) : 0 ≤ be m a n ∧ be m a n < 256 ^ n := by
  induction n with
  | zero => exact ⟨Int.le_refl _, by show (0 : Int) < 256 ^ 0; decide⟩
  | succ n ih =>
    have h1 := ih fun i hi => hm i (by omega)
    have h2 := hm n (by omega)
    show 0 ≤ 256 * be m a n + m (a + n) ∧ 256 * be m a n + m (a + n) < 256 ^ (n + 1)
    rw [Int.pow_succ]
    omega

theorem or_byte (v b : Int) (h0 : 0 ≤ v) (h1 : v < 16777216) (h2 : 0 ≤ b) (h3 : b < 256) : bits .or .u32 (v * 256) b = 256 * v + b := by
  rw [u32_or _ _ (by omega) (by omega) (by omega) (by omega), nat_join 8 _ _ (by simp only [Nat.reducePow]; omega) (by simp only [Nat.reducePow]; omega)]
  omega

set_option maxRecDepth 100000 in
set_option maxHeartbeats 1000000 in
theorem load_ok (r pb pw ph cp : Nat) (m : Nat → Int) (a : Nat) (n : Nat) (s : Bool) (w : World) (R : RamAt w r pb pw ph cp m) (h : rightC a n = 0) :
    Calls Tryd.prog 14 #[.pointer (some ⟨r, 0, none⟩), .int .u32 a, .int .i64 n, .bool s] w fun e w' => e = .returned (.tuple #[.int .u32 (Wd.wide (be m a n) (8 * n) s), .nilIface]) ∧ w = w' := by
  obtain ⟨hn, hm, ha⟩ := rightC_ok h
  have ha' : a < 16384 := by omega
  have hn4 : n ≤ 4 := by omega
  have hn1 : 1 ≤ n := by omega
  have han : a + n ≤ 16384 := by
    have hn' : n = 1 ∨ n = 2 ∨ n = 4 := by omega
    rcases hn' with rfl | rfl | rfl <;> omega
  have hb : w.cell? ⟨r, 0, none⟩ = some (.slice (some ⟨pb, 0, none⟩) 16384 cp) := by simp [World.cell?, R.box]
  obtain ⟨hcp1, hcp2⟩ := R.room
  have HC := Lib.hid (fun i (hi : i < n) => R.bytes.cell (i := a + i) (by omega))
  have HG := Lib.hid (fun i (hi : i < n) => R.rng (a + i) (by omega))
  clear hn hm ha
  go_enter Tryd.func14, Tryd.ntmps14
  go_wp2_with fail
  refine (right_ok _ _ _ (by omega) h).mono ?_
  rintro e w' ⟨rfl, rfl⟩
  go_wp2_with fail
  go_loop [11, 13, 31] (fun s11 _ s31 => ∃ i : Nat, i ≤ n ∧ s31 = .int .i64 i ∧ s11 = .int .u32 (be m a i)) (fun _ _ s31 => n - (intOf s31).toNat)
  case atStart => exact ⟨0, Nat.zero_le _, rfl, rfl⟩
  case round =>
    obtain ⟨i, hi, rfl, rfl⟩ := hrel
    have hr := be_rng m a i (fun k hk => HG.out k (by omega))
    by_cases hlt : i < n
    · have hc := HC.out i hlt
      obtain ⟨g1, g2⟩ := HG.out i hlt
      have hpw : (256 : Int) ^ i ≤ 16777216 := by
        have hi4 : i = 0 ∨ i = 1 ∨ i = 2 ∨ i = 3 := by omega
        rcases hi4 with rfl | rfl | rfl | rfl <;> decide
      have hr2 := hr.2
      have HO := Lib.hid (or_byte (be m a i) (m (a + i)) hr.1 (by omega) g1 g2)
      go_wp2_with fail
      go_round
      case rel => exact ⟨i + 1, by omega, by go_num, by rw [HO.out]; rfl⟩
      case measure => simp [intOf]; omega
    · obtain rfl : i = n := by omega
      have hpw : (256 : Int) ^ i ≤ 4294967296 := by
        have hi4 : i = 1 ∨ i = 2 ∨ i = 3 ∨ i = 4 := by omega
        rcases hi4 with rfl | rfl | rfl | rfl <;> decide
      have hr2 := hr.2
      go_wp2_with fail
      refine (wide_any _ _ _ _ (by omega)).mono ?_
      rintro e w' ⟨rfl, rfl⟩
      go_wp2_with fail
      go_ret2
      exact ⟨rfl, rfl⟩

set_option maxRecDepth 100000 in
set_option maxHeartbeats 1000000 in
theorem load_bad (r : Addr) (a n : Int) (s : Bool) (w : World) (ea : Nat → Addr) (E : Errs3 w ea) (ha : 0 ≤ a ∧ a < 4294967296) (h : rightC a n ≠ 0) :
    Calls Tryd.prog 14 #[.pointer (some r), .int .u32 a, .int .i64 n, .bool s] w fun e w' => e = .returned (.tuple #[.int .u32 0, errV ea (rightC a n)]) ∧ w = w' := by
  go_enter Tryd.func14, Tryd.ntmps14
  go_wp2_with fail
  refine (right_bad _ _ _ ea E ha h).mono ?_
  rintro e w' ⟨rfl, rfl⟩
  unfold errV
  go_wp2_with fail
  go_ret2
  exact ⟨rfl, rfl⟩
end Go.Proofs.YtlmnmncdoiealaaDoor

/- RamStore -/
/- The walk of (*Ram).Store. -/
namespace Go.Proofs.YtlmnmncdoiealaaDoor
open Go.RowKit Go.Deep
set_option linter.unusedVariables false

/-- the byte that a store of n bytes lays at place i -/
def sb (v : Int) (n i : Nat) : Int := v / 2 ^ (8 * (n - 1 - i)) % 256
/-- memory behind a store of the first j of n bytes -/
def stTo (m : Nat → Int) (a n : Nat) (v : Int) (j : Nat) (k : Nat) : Int := if a ≤ k ∧ k < a + j then sb v n (k - a) else m k

theorem RamAt.congr {w : World} {r pb pw ph cp : Nat} {m m' : Nat → Int} (h : RamAt w r pb pw ph cp m) (e : ∀ i, i < 16384 → m i = m' i) : RamAt w r pb pw ph cp m' :=
  ⟨h.box, h.bytes.congr (fun i hi => by rw [e i hi]), h.room, fun i hi => by rw [← e i hi]; exact h.rng i hi, h.apart⟩
theorem RamAt.st0 {w : World} {r pb pw ph cp : Nat} {m : Nat → Int} {a n : Nat} {v : Int} (h : RamAt w r pb pw ph cp m) : RamAt w r pb pw ph cp (stTo m a n v 0) :=
  h.congr fun i _ => by rw [stTo, if_neg (by omega)]
theorem RamAt.stored {w wr : World} {r pb pw ph cp : Nat} {m : Nat → Int} {a n i : Nat} {v : Int} (h : RamAt wr r pb pw ph cp (stTo m a n v i)) (hi : i < n) (k : Keeps (· = pb) w wr) :
    RamAt ((wr.setCell ⟨pb, a + i, none⟩ (.int .u8 (sb v n i))).drew) r pb pw ph cp (stTo m a n v (i + 1)) ∧ Keeps (· = pb) w ((wr.setCell ⟨pb, a + i, none⟩ (.int .u8 (sb v n i))).drew) := by
  refine ⟨⟨?_, ?_, h.room, ?_, h.apart⟩, (k.setCell (a := ⟨pb, a + i, none⟩) (fun _ => rfl) _).drew⟩
  · exact (blk_setCell_other wr ⟨pb, a + i, none⟩ _ r h.apart.1).trans h.box
  · refine (RowTo.drew (h.bytes.set (a + i) _)).congr fun j hj => ?_
    by_cases e : j = a + i
    · subst e
      rw [if_pos rfl, stTo, if_pos (by omega), show a + i - a = i by omega]
    · rw [if_neg e]
      unfold stTo
      by_cases h1 : a ≤ j ∧ j < a + i
      · rw [if_pos h1, if_pos (by omega)]
      · rw [if_neg h1, if_neg (by omega)]
  · intro j hj
    have := h.rng j hj
    unfold stTo at this ⊢
    by_cases h1 : a ≤ j ∧ j < a + i
    · rw [if_pos h1] at this
      rw [if_pos (by omega)]; exact this
    · rw [if_neg h1] at this
      by_cases h2 : a ≤ j ∧ j < a + (i + 1)
      · rw [if_pos h2, sb]; omega
      · rw [if_neg h2]; exact this

set_option maxRecDepth 100000 in
set_option maxHeartbeats 1000000 in
theorem store_cold (r pb pw ph cp : Nat) (m : Nat → Int) (a : Nat) (n : Nat) (v : Int) (w : World) (R : RamAt w r pb pw ph cp m) (hv : 0 ≤ v ∧ v < 4294967296) (h : rightC a n = 0)
    (hk : ∀ w', Keeps (· = pb) w w' → (Instr.lookup 84 (.map (some pw)) (.int .i64 ((a : Int) / 256)) false).run Tryd.prog w' = .ok (.bool false) w') :
    Calls Tryd.prog 17 #[.pointer (some ⟨r, 0, none⟩), .int .u32 a, .int .i64 n, .int .u32 v] w fun e w' => e = .returned .nilIface ∧ RamAt w' r pb pw ph cp (stTo m a n v n) ∧ Keeps (· = pb) w w' := by
  obtain ⟨hn, hm, ha⟩ := rightC_ok h
  have ha' : a < 16384 := by omega
  have hn4 : n ≤ 4 := by omega
  have hn1 : 1 ≤ n := by omega
  have han : a + n ≤ 16384 := by
    have hn' : n = 1 ∨ n = 2 ∨ n = 4 := by omega
    rcases hn' with rfl | rfl | rfl <;> omega
  have HK := Lib.hid hk
  obtain ⟨hcp1, hcp2⟩ := R.room
  clear hn hm ha hk
  go_enter Tryd.func17, Tryd.ntmps17
  go_wp2_with fail
  refine (right_ok _ _ _ (by omega) h).mono ?_
  rintro e w' ⟨rfl, rfl⟩
  go_wp2_with fail
  go_loopw [19] (fun s19 wr => ∃ i : Nat, i ≤ n ∧ s19 = .int .i64 i ∧ RamAt wr r pb pw ph cp (stTo m a n v i) ∧ Keeps (· = pb) w wr) (fun s19 _ => n - (intOf s19).toNat)
  case atStart => exact ⟨0, Nat.zero_le _, rfl, R.st0, Keeps.refl _ _⟩
  case round =>
    obtain ⟨i, hi, rfl, hR, hS⟩ := hrel
    by_cases hlt : i < n
    · have hb : wr.cell? ⟨r, 0, none⟩ = some (.slice (some ⟨pb, 0, none⟩) 16384 cp) := by simp [World.cell?, hR.box]
      have hc := hR.bytes.cell (i := a + i) (by omega)
      have hf := hR.bytes.frozen (a + i)
      have q1 : IntKind.i64.wrap (a : Int) = a := IntWalk.i64_in _ (by omega)
      have q2 : IntKind.i64.wrap ((a : Int) + i) = a + i := IntWalk.i64_in _ (by omega)
      have q3 : IntKind.i64.wrap ((n : Int) - 1) = n - 1 := IntWalk.i64_in _ (by omega)
      have q4 : IntKind.i64.wrap ((n : Int) - 1 - i) = n - 1 - i := IntWalk.i64_in _ (by omega)
      have q5 : IntKind.i64.wrap (8 * ((n : Int) - 1 - i)) = 8 * (n - 1 - i) := IntWalk.i64_in _ (by omega)
      have q6 : 0 ≤ 8 * ((n : Int) - 1 - i) := by omega
      have q7 : 8 * ((n : Int) - 1 - i) ≤ 32 := by omega
      have q8 : ((a : Int) + i).toNat = a + i := by omega
      have q9 : (8 * ((n : Int) - 1 - i)).toNat = 8 * (n - 1 - i) := by omega
      have q10 : 0 ≤ (a : Int) + i := by omega
      have q11 : (a : Int) + i < 16384 := by omega
      go_wp2_with fail
      go_still_tail 17, (by kernel_rfl)
      change wpList _ _ _ _ _ wr.drew
      go_wp2
      go_roundw
      case rel => exact ⟨i + 1, by omega, by go_num, (hR.stored hlt hS).1, (hR.stored hlt hS).2⟩
      case measure => simp [intOf]; omega
    · obtain rfl : i = n := by omega
      have hb : wr.cell? ⟨r, 1, none⟩ = some (.map (some pw)) := by simp [World.cell?, hR.box]
      have hl := HK.out wr hS
      go_wp2
      go_ret
      exact ⟨rfl, hR, hS⟩
end Go.Proofs.YtlmnmncdoiealaaDoor

/- RamWords -/
/- The walks of (*Ram).Words, of a Store that is refused, and what an empty map answers. -/
namespace Go.Proofs.YtlmnmncdoiealaaDoor
open Go.RowKit Go.Deep
set_option linter.unusedVariables false

set_option maxHeartbeats 1000000 in
theorem store_bad (r : Addr) (a n v : Int) (w : World) (ea : Nat → Addr) (E : Errs3 w ea) (ha : 0 ≤ a ∧ a < 4294967296) (h : rightC a n ≠ 0) :
    Calls Tryd.prog 17 #[.pointer (some r), .int .u32 a, .int .i64 n, .int .u32 v] w fun e w' => e = .returned (errV ea (rightC a n)) ∧ w = w' := by
  go_enter Tryd.func17, Tryd.ntmps17
  go_wp2_with fail
  refine (right_bad _ _ _ ea E ha h).mono ?_
  rintro e w' ⟨rfl, rfl⟩
  unfold errV
  go_wp2_with fail
  go_ret
  exact ⟨rfl, rfl⟩

theorem int_key : Maps.Keyed Tryd.prog 3 := Maps.int_keyed Tryd.underlying3
theorem zero_bool (w : World) : (zeroValue 4).run Tryd.prog w = .ok (.bool false) w := by kernel_rfl
theorem look_empty (w : World) (b c : Nat) (p : Int) (hb : w.heap[b]? = some (.map #[] c)) (hp : (Lit.int .i64 p).wf = true) :
    (Instr.lookup 84 (.map (some b)) (.int .i64 p) false).run Tryd.prog w = .ok (.bool false) w := by
  have hk := Maps.keyOf_int_mk Tryd.underlying3 hp
  have F : WideElems.Fit (H := Unit) Tryd.prog 3 (fun _ => none) #[] c := ⟨by simp, MapKept.stamped_empty c, by simp⟩
  rcases Maps.fit_look false int_key Tryd.underlying84 (zero_bool w) hb F hk with ⟨h, _⟩ | ⟨e0, y, he, _⟩
  · exact h
  · simp at he

theorem Tryd.info_u32 : (Tryd.prog.info? 29).map (fun i => (i.zero, i.size, i.bytes)) = some (some (.int .u32 0), 1, 4) := by kernel_rfl
def zeroRow32 (n : Nat) : Array Value := madeCells #[.int .u32 0] n
theorem make_words (w : World) : (Instr.makeSlice 40 (.int .i64 4096) (.int .i64 4096)).run Tryd.prog w = .ok (.slice (some ⟨w.heap.size, 0, none⟩) 4096 4096) (w.alloc (.cells (zeroRow32 4096) 29)) :=
  run_make_row' (P := Tryd.prog) 40 29 (.int .u32 0) 4 Tryd.underlying40 Tryd.info_u32 rfl .i64 .i64 4096 (by omega) (by omega) w

theorem words_step {wr : World} {b : Nat} {T : TypeId} {m : Nat → Int} {i : Nat} {x : Int} (h : wr.rowIs b T 4096 (fun k => .int .u32 (be m (4 * k) (min 4 (i - 4 * k))))) (hx : x = 256 * be m (4 * (i / 4)) (i % 4) + m i) :
    (wr.setCell ⟨b, i / 4, none⟩ (.int .u32 x)).rowIs b T 4096 (fun k => .int .u32 (be m (4 * k) (min 4 (i + 1 - 4 * k)))) := by
  refine (h.set (i / 4) _).congr fun k hk => ?_
  by_cases e : k = i / 4
  · subst e
    rw [if_pos rfl, hx, show min 4 (i + 1 - 4 * (i / 4)) = i % 4 + 1 by omega]
    show _ = Value.int .u32 (256 * be m (4 * (i / 4)) (i % 4) + m (4 * (i / 4) + i % 4))
    rw [show 4 * (i / 4) + i % 4 = i by omega]
  · rw [if_neg e, show min 4 (i - 4 * k) = min 4 (i + 1 - 4 * k) by omega]

set_option maxRecDepth 100000 in
set_option maxHeartbeats 1000000 in
theorem words_any (r pb pw ph cp : Nat) (m : Nat → Int) (w : World) (R : RamAt w r pb pw ph cp m) :
    Calls Tryd.prog 26 #[.pointer (some ⟨r, 0, none⟩)] w fun e w' => e = .returned (.slice (some ⟨w.heap.size, 0, none⟩) 4096 4096) ∧ w'.rowIs w.heap.size 29 4096 (fun k => .int .u32 (be m (4 * k) 4)) ∧ Keeps (fun _ => False) w w' := by
  have hmk := make_words
  have hb : w.cell? ⟨r, 0, none⟩ = some (.slice (some ⟨pb, 0, none⟩) 16384 cp) := by simp [World.cell?, R.box]
  obtain ⟨hcp1, hcp2⟩ := R.room
  go_enter Tryd.func26, Tryd.ntmps26
  have hb' := cell_alloc hb (.cells (zeroRow32 4096) 29)
  go_wp2_with fail
  go_loopw [18] (fun s18 wr => ∃ i : Nat, i ≤ 16384 ∧ s18 = .int .i64 i ∧ wr.rowIs w.heap.size 29 4096 (fun k => .int .u32 (be m (4 * k) (min 4 (i - 4 * k)))) ∧ Keeps (fun _ => False) w wr) (fun s18 _ => 16384 - (intOf s18).toNat)
  case atStart => exact ⟨0, Nat.zero_le _, rfl, (World.rowIs_made w (.int .u32 0) 4096 29).congr (fun k _ => by simp [be]), (Keeps.refl _ w).alloc _⟩
  case round =>
    obtain ⟨i, hi, rfl, hrow, hS⟩ := hrel
    by_cases hlt : i < 16384
    · have hc := (hS.rowTo R.bytes (fun x => x)).cell (i := i) hlt
      obtain ⟨g1, g2⟩ := R.rng i hlt
      have hw := hrow.cell (i := i / 4) (by omega)
      have hf := hrow.frozen (i / 4)
      rw [show min 4 (i - 4 * (i / 4)) = i % 4 by omega] at hw
      have hr := be_rng m (4 * (i / 4)) (i % 4) (fun k hk => R.rng _ (by omega))
      have hp : (256 : Int) ^ (i % 4) ≤ 16777216 := by
        have hi4 : i % 4 = 0 ∨ i % 4 = 1 ∨ i % 4 = 2 ∨ i % 4 = 3 := by omega
        rcases hi4 with h | h | h | h <;> rw [h] <;> decide
      have hr1 := hr.1
      have hr2 : be m (4 * (i / 4)) (i % 4) < 16777216 := by omega
      clear hp hr
      have HO := Lib.hid (or_byte (be m (4 * (i / 4)) (i % 4)) (m i) hr1 hr2 g1 g2)
      go_wp2
      go_roundw
      case rel => exact ⟨i + 1, by omega, by go_num, words_step hrow HO.out, hS.setCell (a := ⟨w.heap.size, i / 4, none⟩) (fun h => absurd h (Nat.lt_irrefl _)) _⟩
      case measure => simp [intOf]; omega
    · obtain rfl : i = 16384 := by omega
      go_wp2
      go_ret
      exact ⟨rfl, hrow.congr (fun k hk => by rw [show min 4 (16384 - 4 * k) = 4 by omega]), hS⟩
end Go.Proofs.YtlmnmncdoiealaaDoor
