/- scratch -/
import Derived.Test.YtmcfjdbpgnchnaaWordRefs
import Derived.Test.YtmcfjdbpgnchnaaWordMul
namespace Go.Proofs.Ytmcfjdbpgnchnaa
open Go.RowKit
theorem add_c1 (w : World) : Calls Try.prog 10 #[.int .u32 4294967295, .int .u32 2] w fun e w' => e = .returned (.tuple #[.int .u32 1, .bool false]) ∧ w = w' :=
  (add_any 4294967295 2 w (by omega) (by omega)).mono fun _ _ ⟨he, hw⟩ => ⟨he.trans rfl, hw⟩
theorem add_c2 (w : World) : Calls Try.prog 10 #[.int .u32 2147483647, .int .u32 1] w fun e w' => e = .returned (.tuple #[.int .u32 2147483648, .bool true]) ∧ w = w' :=
  (add_any 2147483647 1 w (by omega) (by omega)).mono fun _ _ ⟨he, hw⟩ => ⟨he.trans rfl, hw⟩
set_option maxHeartbeats 400000 in
theorem added_any (w : World) :
    Calls Try.prog 8 #[] w fun e w' => e = .returned (.bool true) ∧ w = w' := by
  go_enter Try.func8, Try.ntmps8
  go_wp2_with fail
  refine (add_c1 _).mono ?_
  rintro e w' ⟨rfl, rfl⟩
  go_wp2_with fail
  refine (add_c2 _).mono ?_
  rintro e w' ⟨rfl, rfl⟩
  go_wp2_with fail
  go_ret
  exact ⟨rfl, rfl⟩
set_option maxHeartbeats 400000 in
theorem sums_any (a b : Int) (w : World) (ha : 0 ≤ a ∧ a < 4294967296) (hb : 0 ≤ b ∧ b < 4294967296) :
    Calls Try.prog 4 #[.int .u32 a, .int .u32 b] w fun e w' => e = .returned (.bool true) ∧ w = w' := by
  have h1 := Wd.sg_bd a ha.1 ha.2
  have h2 := Wd.sg_bd b hb.1 hb.2
  go_enter Try.func4, Try.ntmps4
  go_wp2_with fail
  refine (added_any _).mono ?_
  rintro e w' ⟨rfl, rfl⟩
  go_wp2_with fail
  refine (add_any _ _ _ ha hb).mono ?_
  rintro e w' ⟨rfl, rfl⟩
  go_wp2_with fail
  refine (sub_any _ _ _ ha hb).mono ?_
  rintro e w' ⟨rfl, rfl⟩
  go_wp2_with fail
  refine (signed_any _ _ ha).mono ?_
  rintro e w' ⟨rfl, rfl⟩
  go_wp2_with fail
  refine (signed_any _ _ hb).mono ?_
  rintro e w' ⟨rfl, rfl⟩
  go_wp2_with fail
  refine (word_any _ _ (by omega)).mono ?_
  rintro e w' ⟨rfl, rfl⟩
  go_wp2_with fail
  refine (word_any _ _ (by omega)).mono ?_
  rintro e w' ⟨rfl, rfl⟩
  go_wp2_with fail
  refine (isSigned_any _ _).mono ?_
  rintro e w' ⟨rfl, rfl⟩
  go_wp2_with fail
  refine (isSigned_any _ _).mono ?_
  rintro e w' ⟨rfl, rfl⟩
  go_wp2_with fail
  refine (mul_any _ _ _ _ ha hb).mono ?_
  rintro e w' ⟨rfl, rfl⟩
  go_wp2_with fail
  refine (mul_any _ _ _ _ ha hb).mono ?_
  rintro e w' ⟨rfl, rfl⟩
  go_wp2_with fail
  refine (mulOf_any _ _ _ _ ha hb).mono ?_
  rintro e w' ⟨rfl, rfl⟩
  go_wp2_with fail
  refine (mulOf_any _ _ _ _ ha hb).mono ?_
  rintro e w' ⟨rfl, rfl⟩
  go_wp2_with fail
  go_ret
  exact ⟨rfl, rfl⟩
/-- what is written of a word: it lies in its bounds -/
theorem rng_u32 {a : Int} (h : (Lit.int .u32 a).wf = true) : 0 ≤ a ∧ a < 4294967296 := by
  simp [Lit.wf, IntKind.min, IntKind.max, IntKind.signed, IntKind.bits] at h; omega
theorem grown_same {w w' : World} (h : w = w') : Grown w w' := h ▸ Grown.refl w
theorem grown_drew {w w' : World} (h : ∃ n, w' = w.drewN n) : Grown w w' := by
  obtain ⟨n, rfl⟩ := h
  induction n with
  | zero => exact Grown.refl w
  | succ n ih => exact Grown.drew ih
end Go.Proofs.Ytmcfjdbpgnchnaa
