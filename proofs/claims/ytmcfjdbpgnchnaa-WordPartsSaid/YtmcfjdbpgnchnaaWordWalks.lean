/- The walks of the functions of package word and of their references: what each call gives, said of integers. -/
import Derived.Test.YtmcfjdbpgnchnaaRows
import Derived.Test.YtmcfjdbpgnchnaaWordDefs
import Derived.WalkKit
import Derived.WalkSpells
import Derived.WalkLawsBesides
import Derived.Deep.QuietTactic
import Derived.BigQuiet
import Derived.Lib.Hide
namespace Go.Proofs.Ytmcfjdbpgnchnaa
open Go.RowKit

theorem ret_bool {a b : Bool} (h : a = b) : Ending.returned (.bool a) = .returned (.bool b) := by rw [h]
theorem ret_int {k : IntKind} {a b : Int} (h : a = b) : Ending.returned (.int k a) = .returned (.int k b) := by rw [h]
theorem ret_int_bool {k : IntKind} {a b : Int} {c d : Bool} (h : a = b) (h' : c = d) : Ending.returned (.tuple #[.int k a, .bool c]) = .returned (.tuple #[.int k b, .bool d]) := by rw [h, h']
theorem ret_int_int {k l : IntKind} {a b c d : Int} (h : a = b) (h' : c = d) : Ending.returned (.tuple #[.int k a, .int l c]) = .returned (.tuple #[.int k b, .int l d]) := by rw [h, h']

set_option maxHeartbeats 400000 in
theorem less_any (a b : Int) (s : Bool) (w : World) (ha : 0 ≤ a ∧ a < 4294967296) (hb : 0 ≤ b ∧ b < 4294967296) :
    Calls Try.prog 9 #[.int .u32 a, .int .u32 b, .bool s] w fun e w' => e = .returned (.bool (Wd.less a b s)) ∧ w = w' := by
  have h1 := Wd.sg_wrap a ha.1 ha.2
  have h2 := Wd.sg_wrap b hb.1 hb.2
  have H1 := Lib.hid h1
  have H2 := Lib.hid h2
  clear h1 h2
  cases s
  all_goals
    go_enter Try.func9, Try.ntmps9
    go_wp2
    go_ret
  · exact ⟨rfl, rfl⟩
  · exact ⟨ret_bool (by rw [H1.out, H2.out]; rfl), rfl⟩

set_option maxHeartbeats 400000 in
theorem add_any (a b : Int) (w : World) (ha : 0 ≤ a ∧ a < 4294967296) (hb : 0 ≤ b ∧ b < 4294967296) :
    Calls Try.prog 10 #[.int .u32 a, .int .u32 b] w fun e w' => e = .returned (.tuple #[.int .u32 ((a + b) % 4294967296), .bool (!Wd.isS (Wd.sg a + Wd.sg b))]) ∧ w = w' := by
  go_enter Try.func10, Try.ntmps10
  go_wp2
  go_ret2
  exact ⟨ret_int_bool rfl (Wd.add_over a b ha hb), rfl⟩

set_option maxHeartbeats 400000 in
theorem sub_any (a b : Int) (w : World) (ha : 0 ≤ a ∧ a < 4294967296) (hb : 0 ≤ b ∧ b < 4294967296) :
    Calls Try.prog 11 #[.int .u32 a, .int .u32 b] w fun e w' => e = .returned (.tuple #[.int .u32 ((a - b) % 4294967296), .bool (!Wd.isS (Wd.sg a - Wd.sg b))]) ∧ w = w' := by
  go_enter Try.func11, Try.ntmps11
  go_wp2
  go_ret2
  exact ⟨ret_int_bool rfl (Wd.sub_over a b ha hb), rfl⟩

set_option maxHeartbeats 400000 in
theorem signed_any (a : Int) (w : World) (ha : 0 ≤ a ∧ a < 4294967296) :
    Calls Try.prog 12 #[.int .u32 a] w fun e w' => e = .returned (.int .i64 (Wd.sg a)) ∧ w = w' := by
  by_cases h : a < 2147483648
  all_goals
    have h1 : Hid (Wd.sg a = if a < 2147483648 then a else a - 4294967296) := Lib.hid rfl
    go_enter Try.func12, Try.ntmps12
    go_wp2
    go_ret
  · exact ⟨ret_int (by rw [h1.out, if_pos h]), rfl⟩
  · exact ⟨ret_int (by rw [h1.out, if_neg (by omega)]), rfl⟩

set_option maxHeartbeats 400000 in
theorem word_any (n : Int) (w : World) (hn : -9223372036854775808 ≤ n ∧ n ≤ 9223372036854775807) :
    Calls Try.prog 13 #[.int .i64 n] w fun e w' => e = .returned (.int .u32 (n % 4294967296)) ∧ w = w' := by
  have hm : Hid (0 ≤ n → n.tmod 4294967296 = n % 4294967296) := Lib.hid fun h => Int.tmod_eq_emod_of_nonneg h
  have hm' : Hid (n < 0 → n.tmod 4294967296 = -((-n) % 4294967296)) := Lib.hid fun h => by
    have := Int.tmod_eq_emod_of_nonneg (a := -n) (b := 4294967296) (by omega)
    rw [Int.neg_tmod] at this; omega
  go_enter Try.func13, Try.ntmps13
  go_wp2
  all_goals
    go_ret
    refine ⟨ret_int ?_, rfl⟩
    have hm := hm.out
    have hm' := hm'.out
    try unfold wrap64
    omega

set_option maxHeartbeats 400000 in
theorem isSigned_any (n : Int) (w : World) :
    Calls Try.prog 14 #[.int .i64 n] w fun e w' => e = .returned (.bool (Wd.isS n)) ∧ w = w' := by
  go_enter Try.func14, Try.ntmps14
  go_wp2
  all_goals go_ret
  all_goals exact ⟨ret_bool (by simp [Wd.isS]; try omega), rfl⟩

set_option maxHeartbeats 400000 in
theorem lessOf_any (a b : Int) (s : Bool) (w : World) (ha : 0 ≤ a ∧ a < 4294967296) (hb : 0 ≤ b ∧ b < 4294967296) :
    Calls Try.prog 21 #[.int .u32 a, .int .u32 b, .bool s] w fun e w' => e = .returned (.bool (Wd.less a b s)) ∧ w = w' := by
  cases s
  · go_enter Try.func21, Try.ntmps21
    go_wp2
    go_ret
    exact ⟨rfl, rfl⟩
  · go_enter Try.func21, Try.ntmps21
    go_wp2_with fail
    refine (signed_any _ _ ha).mono ?_
    rintro e w' ⟨rfl, rfl⟩
    go_wp2_with fail
    refine (signed_any _ _ hb).mono ?_
    rintro e w' ⟨rfl, rfl⟩
    go_wp2_with fail
    go_ret
    exact ⟨rfl, rfl⟩
end Go.Proofs.Ytmcfjdbpgnchnaa
