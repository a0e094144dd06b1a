
/- The walks of ram.right, word.Wide and (*Ram).Load. -/
import Derived.Test.YtlmnmncdoiealaaDoorRamNew
import Derived.Test.YtlmnmncdoiealaaDoorWide
import Derived.Test.YtlmnmncdoiealaaDoorErr
import Derived.Laws.BitsAllLaws
namespace Go.Proofs.YtlmnmncdoiealaaDoor
open Go.RowKit Go.Deep
set_option linter.unusedVariables false

/-- the number of what 'right' answers -/
def rightC (a n : Int) : Nat := if n ≠ 1 ∧ n ≠ 2 ∧ n ≠ 4 then 3 else if a % n ≠ 0 then 9 else if 16384 ≤ a then 10 else 0

set_option maxHeartbeats 400000 in
theorem right_ok (a n : Int) (w : World) (ha : 0 ≤ a ∧ a < 4294967296) (h : rightC a n = 0) :
    Calls Tryd.prog 38 #[.int .u32 a, .int .i64 n] w fun e w' => e = .returned .nilIface ∧ w = w' := by
  have hn : n = 1 ∨ n = 2 ∨ n = 4 := by unfold rightC at h; split at h <;> omega
  have h1 : a % n = 0 := by
    unfold rightC at h
    rw [if_neg (by omega)] at h
    apply Classical.byContradiction
    intro hc
    rw [if_pos hc] at h
    omega
  have h2 : a < 16384 := by
    unfold rightC at h
    rw [if_neg (by omega), if_neg (by omega)] at h
    split at h <;> omega
  clear h
  rcases hn with rfl | rfl | rfl
  all_goals
    go_enter Tryd.func38, Tryd.ntmps38
    go_wp2
    go_ret
    exact ⟨rfl, rfl⟩
set_option maxHeartbeats 400000 in
theorem right_bad (a n : Int) (w : World) (ea : Nat → Addr) (E : Errs3 w ea) (ha : 0 ≤ a ∧ a < 4294967296) (h : rightC a n ≠ 0) :
    Calls Tryd.prog 38 #[.int .u32 a, .int .i64 n] w fun e w' => e = .returned (errV ea (rightC a n)) ∧ w = w' := by
  obtain ⟨e1, e2, e3⟩ := E
  by_cases hn : n ≠ 1 ∧ n ≠ 2 ∧ n ≠ 4
  · have hr : rightC a n = 3 := by rw [rightC, if_pos hn]
    rw [hr]
    have n1 : (n != 1) = true := by simpa using hn.1
    have n2 : (n != 2) = true := by simpa using hn.2.1
    have n4 : (n != 4) = true := by simpa using hn.2.2
    clear hn
    go_enter Tryd.func38, Tryd.ntmps38
    go_wp2
    go_ret
    exact ⟨rfl, rfl⟩
  · have hn' : n = 1 ∨ n = 2 ∨ n = 4 := by omega
    by_cases hm : a % n = 0
    · have hr : rightC a n = 10 := by
        unfold rightC at h ⊢
        rw [if_neg hn, if_neg (by omega)] at h ⊢
        split at h
        · rw [if_pos (by assumption)]
        · exact absurd rfl h
      have hf : 16384 ≤ a := by
        rw [rightC, if_neg hn, if_neg (by omega)] at hr
        split at hr <;> omega
      rw [hr]
      clear hn hr h
      rcases hn' with rfl | rfl | rfl
      all_goals
        go_enter Tryd.func38, Tryd.ntmps38
        go_wp2
        go_ret
        exact ⟨rfl, rfl⟩
    · have hr : rightC a n = 9 := by rw [rightC, if_neg hn, if_pos hm]
      rw [hr]
      clear hn hr h
      rcases hn' with rfl | rfl | rfl
      · exfalso; omega
      all_goals
        go_enter Tryd.func38, Tryd.ntmps38
        go_wp2
        go_ret
        exact ⟨rfl, rfl⟩

/-- n bytes from a on, the highest first -/
def be (m : Nat → Int) (a : Nat) : Nat → Int
  | 0 => 0
  | n + 1 => 256 * be m a n + m (a + n)

theorem rightC_ok {a n : Int} (h : rightC a n = 0) : (n = 1 ∨ n = 2 ∨ n = 4) ∧ a % n = 0 ∧ a < 16384 := by
  have hn : n = 1 ∨ n = 2 ∨ n = 4 := by unfold rightC at h; split at h <;> omega
  have h1 : a % n = 0 := by
    unfold rightC at h
    rw [if_neg (by omega)] at h
    apply Classical.byContradiction
    intro hc
    rw [if_pos hc] at h
    omega
  refine ⟨hn, h1, ?_⟩
  unfold rightC at h
  rw [if_neg (by omega), if_neg (by omega)] at h
  split at h <;> omega
theorem be_rng (m : Nat → Int) (a n : Nat) (hm : ∀ i, i < n → 0 ≤ m (a + i) ∧ m (a + i) < 256) : 0 ≤ be m a n ∧ be m a n < 256 ^ n := by
  induction n with
  | zero => exact ⟨Int.le_refl _, by show (0 : Int) < 256 ^ 0; decide⟩
  | succ n ih =>
    have h1 := ih fun i hi => hm i (by omega)
    have h2 := hm n (by omega)
    show 0 ≤ 256 * be m a n + m (a + n) ∧ 256 * be m a n + m (a + n) < 256 ^ (n + 1)
    rw [Int.pow_succ]
    omega

theorem or_byte (v b : Int) (h0 : 0 ≤ v) (h1 : v < 16777216) (h2 : 0 ≤ b) (h3 : b < 256) : bits .or .u32 (v * 256) b = 256 * v + b := by
  rw [u32_or _ _ (by omega) (by omega) (by omega) (by omega), nat_join 8 _ _ (by simp only [Nat.reducePow]; omega) (by simp only [Nat.reducePow]; omega)]
  omega

set_option maxRecDepth 100000 in
set_option maxHeartbeats 1000000 in
theorem load_ok (r pb pw ph cp : Nat) (m : Nat → Int) (a : Nat) (n : Nat) (s : Bool) (w : World) (R : RamAt w r pb pw ph cp m) (h : rightC a n = 0) :
    Calls Tryd.prog 14 #[.pointer (some ⟨r, 0, none⟩), .int .u32 a, .int .i64 n, .bool s] w fun e w' => e = .returned (.tuple #[.int .u32 (Wd.wide (be m a n) (8 * n) s), .nilIface]) ∧ w = w' := by
  obtain ⟨hn, hm, ha⟩ := rightC_ok h
  have ha' : a < 16384 := by omega
  have hn4 : n ≤ 4 := by omega
  have hn1 : 1 ≤ n := by omega
  have han : a + n ≤ 16384 := by
    have hn' : n = 1 ∨ n = 2 ∨ n = 4 := by omega
    rcases hn' with rfl | rfl | rfl <;> omega
  have hb : w.cell? ⟨r, 0, none⟩ = some (.slice (some ⟨pb, 0, none⟩) 16384 cp) := by simp [World.cell?, R.box]
  obtain ⟨hcp1, hcp2⟩ := R.room
  have HC := Lib.hid (fun i (hi : i < n) => R.bytes.cell (i := a + i) (by omega))
  have HG := Lib.hid (fun i (hi : i < n) => R.rng (a + i) (by omega))
  clear hn hm ha
  go_enter Tryd.func14, Tryd.ntmps14
  go_wp2_with fail
  refine (right_ok _ _ _ (by omega) h).mono ?_
  rintro e w' ⟨rfl, rfl⟩
  go_wp2_with fail
  go_loop [11, 13, 31] (fun s11 _ s31 => ∃ i : Nat, i ≤ n ∧ s31 = .int .i64 i ∧ s11 = .int .u32 (be m a i)) (fun _ _ s31 => n - (intOf s31).toNat)
  case atStart => exact ⟨0, Nat.zero_le _, rfl, rfl⟩
  case round =>
    obtain ⟨i, hi, rfl, rfl⟩ := hrel
    have hr := be_rng m a i (fun k hk => HG.out k (by omega))
    by_cases hlt : i < n
    · have hc := HC.out i hlt
      obtain ⟨g1, g2⟩ := HG.out i hlt
      have hpw : (256 : Int) ^ i ≤ 16777216 := by
        have hi4 : i = 0 ∨ i = 1 ∨ i = 2 ∨ i = 3 := by omega
        rcases hi4 with rfl | rfl | rfl | rfl <;> decide
      have hr2 := hr.2
      have HO := Lib.hid (or_byte (be m a i) (m (a + i)) hr.1 (by omega) g1 g2)
      go_wp2_with fail
      go_round
      case rel => exact ⟨i + 1, by omega, by go_num, by rw [HO.out]; rfl⟩
      case measure => simp [intOf]; omega
    · obtain rfl : i = n := by omega
      have hpw : (256 : Int) ^ i ≤ 4294967296 := by
        have hi4 : i = 1 ∨ i = 2 ∨ i = 3 ∨ i = 4 := by omega
        rcases hi4 with rfl | rfl | rfl | rfl <;> decide
      have hr2 := hr.2
      go_wp2_with fail
      refine (wide_any _ _ _ _ (by omega)).mono ?_
      rintro e w' ⟨rfl, rfl⟩
      go_wp2_with fail
      go_ret2
      exact ⟨rfl, rfl⟩

set_option maxRecDepth 100000 in
set_option maxHeartbeats 1000000 in
theorem load_bad (r : Addr) (a n : Int) (s : Bool) (w : World) (ea : Nat → Addr) (E : Errs3 w ea) (ha : 0 ≤ a ∧ a < 4294967296) (h : rightC a n ≠ 0) :
    Calls Tryd.prog 14 #[.pointer (some r), .int .u32 a, .int .i64 n, .bool s] w fun e w' => e = .returned (.tuple #[.int .u32 0, errV ea (rightC a n)]) ∧ w = w' := by
  go_enter Tryd.func14, Tryd.ntmps14
  go_wp2_with fail
  refine (right_bad _ _ _ ea E ha h).mono ?_
  rintro e w' ⟨rfl, rfl⟩
  unfold errV
  go_wp2_with fail
  go_ret2
  exact ⟨rfl, rfl⟩
end Go.Proofs.YtlmnmncdoiealaaDoor
