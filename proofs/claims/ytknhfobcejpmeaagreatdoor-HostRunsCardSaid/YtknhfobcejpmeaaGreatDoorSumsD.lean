
/- The walks of word.Less, Add, Sub, Shift, Mul, Div. -/
import Derived.Test.YtknhfobcejpmeaaGreatDoorShiftOf
import Derived.Deep.QuietTactic
import Derived.BigQuiet
import Derived.Deep.DeepCutAuto
import Derived.WalkLawsBesides
import Derived.Lib.Hide
namespace Go.Proofs.YtknhfobcejpmeaaGreatDoor
open Go.RowKit
set_option linter.unusedVariables false

theorem ret_bool {a b : Bool} (h : a = b) : Ending.returned (.bool a) = .returned (.bool b) := by rw [h]
theorem ret_int_bool {k : IntKind} {a b : Int} {c d : Bool} (h : a = b) (h' : c = d) : Ending.returned (.tuple #[.int k a, .bool c]) = .returned (.tuple #[.int k b, .bool d]) := by rw [h, h']
theorem ret_int_int {k l : IntKind} {a b c d : Int} (h : a = b) (h' : c = d) : Ending.returned (.tuple #[.int k a, .int l c]) = .returned (.tuple #[.int k b, .int l d]) := by rw [h, h']

set_option maxHeartbeats 400000 in
theorem less_any (a b : Int) (s : Bool) (w : World) (ha : 0 ≤ a ∧ a < 4294967296) (hb : 0 ≤ b ∧ b < 4294967296) :
    Calls Tryz.prog 182 #[.int .u32 a, .int .u32 b, .bool s] w fun e w' => e = .returned (.bool (Wd.less a b s)) ∧ w = w' := by
  have h1 := Wd.sg_wrap a ha.1 ha.2
  have h2 := Wd.sg_wrap b hb.1 hb.2
  have H1 := Lib.hid h1
  have H2 := Lib.hid h2
  clear h1 h2
  cases s
  all_goals
    go_enter Tryz.func182, Tryz.ntmps182
    go_wp2
    go_ret
  · exact ⟨rfl, rfl⟩
  · exact ⟨ret_bool (by rw [H1.out, H2.out]; rfl), rfl⟩

set_option maxHeartbeats 400000 in
theorem add_any (a b : Int) (w : World) (ha : 0 ≤ a ∧ a < 4294967296) (hb : 0 ≤ b ∧ b < 4294967296) :
    Calls Tryz.prog 166 #[.int .u32 a, .int .u32 b] w fun e w' => e = .returned (.tuple #[.int .u32 ((a + b) % 4294967296), .bool (!Wd.isS (Wd.sg a + Wd.sg b))]) ∧ w = w' := by
  go_enter Tryz.func166, Tryz.ntmps166
  go_wp2
  go_ret2
  exact ⟨ret_int_bool rfl (Wd.add_over a b ha hb), rfl⟩

set_option maxHeartbeats 400000 in
theorem sub_any (a b : Int) (w : World) (ha : 0 ≤ a ∧ a < 4294967296) (hb : 0 ≤ b ∧ b < 4294967296) :
    Calls Tryz.prog 167 #[.int .u32 a, .int .u32 b] w fun e w' => e = .returned (.tuple #[.int .u32 ((a - b) % 4294967296), .bool (!Wd.isS (Wd.sg a - Wd.sg b))]) ∧ w = w' := by
  go_enter Tryz.func167, Tryz.ntmps167
  go_wp2
  go_ret2
  exact ⟨ret_int_bool rfl (Wd.sub_over a b ha hb), rfl⟩

theorem ret_iib {k l : IntKind} {a b c d : Int} {e f : Bool} (h : a = b) (h' : c = d) (h'' : e = f) : Ending.returned (.tuple #[.int k a, .int l c, .bool e]) = .returned (.tuple #[.int k b, .int l d, .bool f]) := by rw [h, h', h'']

set_option maxHeartbeats 400000 in
theorem shift_any (k a n : Int) (w : World) (ha : 0 ≤ a ∧ a < 4294967296) (hn : 0 ≤ n ∧ n < 4294967296) :
    Calls Tryz.prog 180 #[.int .u8 k, .int .u32 a, .int .u32 n] w fun e w' => e = .returned (.int .u32 (Wd.shift k a n)) ∧ w = w' := by
  have H : Hid (Wd.shift k a n = if k = 60 then a * 2 ^ (n % 32).toNat % 4294967296 else if k = 62 then a / 2 ^ (n % 32).toNat else if k = 126 then Wd.sg a / 2 ^ (n % 32).toNat % 4294967296 else a) := Lib.hid rfl
  have H1 := Lib.hid (Wd.sg_wrap a ha.1 ha.2)
  go_enter Tryz.func180, Tryz.ntmps180
  go_wp2
  all_goals
    go_ret
    refine ⟨ret_i ?_, rfl⟩
    simp only [beq_iff_eq, beq_eq_false_iff_ne, ne_eq] at *
    have H := H.out
    have H1 := H1.out
    rw [H]
    simp only [*, if_true, if_false]
    try rfl

set_option maxHeartbeats 400000 in
theorem mul_any (a b : Int) (s : Bool) (w : World) (ha : 0 ≤ a ∧ a < 4294967296) (hb : 0 ≤ b ∧ b < 4294967296) :
    Calls Tryz.prog 181 #[.int .u32 a, .int .u32 b, .bool s] w fun e w' => e = .returned (.tuple #[.int .u32 (Wd.hi a b s), .int .u32 (Wd.lo a b s)]) ∧ w = w' := by
  cases s
  · go_enter Tryz.func181, Tryz.ntmps181
    go_wp2
    go_ret2
    exact ⟨ret_int_int (Wd.mul_u a b).1 (Wd.mul_u a b).2, rfl⟩
  · go_enter Tryz.func181, Tryz.ntmps181
    go_wp2
    go_ret2
    exact ⟨ret_int_int (Wd.mul_s a b ha hb).1 (Wd.mul_s a b ha hb).2, rfl⟩

set_option maxHeartbeats 400000 in
theorem wdiv_any (a b : Int) (s : Bool) (w : World) (ha : 0 ≤ a ∧ a < 4294967296) (hb : 0 ≤ b ∧ b < 4294967296) :
    Calls Tryz.prog 172 #[.int .u32 a, .int .u32 b, .bool s] w fun e w' => e = .returned (.tuple #[.int .u32 (Wd.quo a b s), .int .u32 (Wd.rst a b s), .bool (b != 0)]) ∧ ∃ n, w' = w.drewN n := by
  have e1 := Wd.sg_wrap a ha.1 ha.2
  have e2 := Wd.sg_wrap b hb.1 hb.2
  by_cases hz : b = 0
  · subst hz
    clear e1 e2
    go_enter Tryz.func172, Tryz.ntmps172
    go_wp2
    go_ret3
    exact ⟨ret_iib (Wd.quo_0 a s).symm (Wd.rst_0 a s).symm rfl, 0, rfl⟩
  · have hz0 : (b == 0) = false := by simpa using hz
    have hz2 : (b != 0) = true := by simpa using hz
    have HZ := Lib.hid hz2
    clear hz2
    cases s
    · clear e1 e2
      go_enter Tryz.func172, Tryz.ntmps172
      go_wp2
      go_quiet (fail)
      go_wp2
      go_ret3
      refine ⟨ret_iib ?_ ?_ HZ.out.symm, _, rfl⟩
      · exact (Wd.quo_u a b hz).symm
      · exact (Wd.rst_u a b hz).symm
    · by_cases hm : wrap32 a = -2147483648 ∧ wrap32 b = -1
      · obtain ⟨m1, m2⟩ := hm
        have m3 : (wrap32 a == -2147483648) = true := by simpa using m1
        have m4 : (wrap32 b == -1) = true := by simpa using m2
        have K1 : Hid ((Wd.sg a).tdiv (Wd.sg b) % 4294967296 = a ∧ (Wd.sg a).tmod (Wd.sg b) % 4294967296 = 0) := by
          refine Lib.hid ?_
          rw [← e1, ← e2, m1, m2]
          have : a = 2147483648 := by rw [e1] at m1; unfold Wd.sg at m1; split at m1 <;> omega
          subst this
          exact ⟨rfl, rfl⟩
        clear e1 e2 m1 m2
        go_enter Tryz.func172, Tryz.ntmps172
        go_wp2
        go_ret3
        refine ⟨ret_iib ?_ ?_ HZ.out.symm, 0, rfl⟩
        · rw [Wd.quo_s a b hz, K1.out.1]
        · rw [Wd.rst_s a b hz, K1.out.2]
      · have hb0 : ¬ (IntKind.i32.wrap b = 0) := by
          rw [IntWalk.i32_left, e2]; unfold Wd.sg; split <;> omega
        have E : Hid (IntKind.i32.wrap a = Wd.sg a ∧ IntKind.i32.wrap b = Wd.sg b) := Lib.hid ⟨by rw [IntWalk.i32_left, e1], by rw [IntWalk.i32_left, e2]⟩
        have hq : Hid (-2147483648 ≤ (Wd.sg a).tdiv (Wd.sg b) ∧ (Wd.sg a).tdiv (Wd.sg b) ≤ 2147483647) := by
          refine Lib.hid ?_
          rw [e1, e2] at hm
          exact Wd.quo_bd _ _ (Wd.sg_bd a ha.1 ha.2) (by unfold Wd.sg; split <;> omega) hm
        have hW : (wrap32 a == -2147483648) = false ∨ ((wrap32 a == -2147483648) = true ∧ (wrap32 b == -1) = false) := by
          by_cases h : wrap32 a = -2147483648
          · right; exact ⟨by simpa using h, by simpa using fun h' => hm ⟨h, h'⟩⟩
          · left; simpa using h
        clear e1 e2 hm
        rcases hW with hW | ⟨hW, hW'⟩
        all_goals
          go_enter Tryz.func172, Tryz.ntmps172
          go_wp2
          go_quiet (fail)
          go_wp2
          go_ret3
          have hq := hq.out
          refine ⟨ret_iib ?_ ?_ HZ.out.symm, _, rfl⟩
          · rw [Wd.quo_s a b hz, E.out.1, E.out.2, IntWalk.i32_in _ hq, IntKind.wrap_u32]
          · rw [Wd.rst_s a b hz, E.out.1, E.out.2, IntKind.wrap_u32]

end Go.Proofs.YtknhfobcejpmeaaGreatDoor
