import Derived.Test.YtknhfobcejpmeaaGreatDoorHrz05
import Derived.Test.YtknhfobcejpmeaaGreatDoorHrz04

/- ValueQ -/
/- The walk of Value, drawing alone. -/
namespace Go.Proofs.YtknhfobcejpmeaaGreatDoor
open Go.RowKit Go.Deep
set_option linter.unusedVariables false
set_option linter.unusedSimpArgs false
set_option maxRecDepth 100000 in
theorem value_q (k : ByteArray) (a b d : Int) (w : World) (ha : 0 ≤ a ∧ a < 4294967296) (hb : 0 ≤ b ∧ b < 4294967296) :
    Calls Tryz.prog 140 #[.string k, .int .u32 a, .int .u32 b, .int .u32 d] w fun e w' => e = .returned (.int .u32 (Ir.value (Ir.kn k) a b d)) ∧ ∃ q, w' = w.drewN q := by
  have HD := Lib.hid (fun w => div_any k w)
  have HS := Lib.hid (fun w => sums_any k a b w ha hb)
  have HW := Lib.hid (fun s w => wdiv_any a b s w ha hb)
  have h24 : (k.toList == [113, 117, 111]) = (Ir.kn k == 24) := Ir.eq_lit2 k 24 (by omega)
  have h25 : (k.toList == [114, 101, 109]) = (Ir.kn k == 25) := Ir.eq_lit2 k 25 (by omega)
  have h26 : (k.toList == [113, 117, 111, 117]) = (Ir.kn k == 26) := Ir.eq_lit2 k 26 (by omega)
  have hr := value_c (Ir.kn k) a b d
  obtain ⟨r, hr0⟩ : ∃ r, Ir.value (Ir.kn k) a b d = r := ⟨_, rfl⟩
  rw [hr0] at hr ⊢
  clear hr0 ha hb
  generalize Ir.isDiv (Ir.kn k) = pd at *
  generalize (Ir.kn k == 24) = p24 at *
  generalize (Ir.kn k == 25) = p25 at *
  generalize (Ir.kn k == 26) = p26 at *
  generalize Ir.sumsV (Ir.kn k) a b = sv at *
  cases pd
  · have HR := Lib.hid (show r = sv from hr)
    clear hr h24 h25 h26
    go_enter Tryz.func140, Tryz.ntmps140
    go_wp2_with fail
    refine (HD.out _).mono ?_
    rintro e w' ⟨rfl, rfl⟩
    go_wp2_with fail
    refine (HS.out _).mono ?_
    rintro e w' ⟨rfl, rfl⟩
    go_wp2_with fail
    go_ret
    exact ⟨by rw [HR.out]; rfl, 0, rfl⟩
  · have HR := Lib.hid hr
    clear hr
    by_cases hb0 : b = 0
    · have t0 : (b != 0) = false := by simp [hb0]
      have HR2 := Lib.hid (show r = d by rw [HR.out, if_pos rfl, if_pos hb0])
      clear hb0
      cases p24 <;> cases p25
      all_goals
        go_enter Tryz.func140, Tryz.ntmps140
        go_wp2_with fail
        refine (HD.out _).mono ?_
        rintro e w' ⟨rfl, rfl⟩
        go_wp2_with fail
        refine (HW.out _ _).mono ?_
        rintro e w' ⟨rfl, q, rfl⟩
        have HK := Lib.hid (rfl : w'.drewN q = w'.drewN q)
        generalize hw3 : w'.drewN q = w3 at *
        have HW3 := Lib.hid hw3
        clear hw3
        go_wp2_with fail
        go_ret
        exact ⟨by rw [HR2.out]; rfl, q, HW3.out.symm⟩
    · have t0 : (b != 0) = true := by simp [hb0]
      have HR2 := Lib.hid (show r = if (p24 || p26) = true then Wd.quo a b (p24 || p25) else Wd.rst a b (p24 || p25) by rw [HR.out, if_pos rfl, if_neg hb0])
      clear hb0 HR
      cases p24 <;> cases p25 <;> cases p26
      all_goals
        go_enter Tryz.func140, Tryz.ntmps140
        go_wp2_with fail
        refine (HD.out _).mono ?_
        rintro e w' ⟨rfl, rfl⟩
        go_wp2_with fail
        refine (HW.out _ _).mono ?_
        rintro e w' ⟨rfl, q, rfl⟩
        have HK := Lib.hid (rfl : w'.drewN q = w'.drewN q)
        generalize hw3 : w'.drewN q = w3 at *
        have HW3 := Lib.hid hw3
        clear hw3
        go_wp2_with fail
        go_ret
        exact ⟨by rw [HR2.out]; rfl, q, HW3.out.symm⟩
end Go.Proofs.YtknhfobcejpmeaaGreatDoor

/- Mach5 -/
/- The walk of a machine's do. -/
namespace Go.Proofs.YtknhfobcejpmeaaGreatDoor
open Go.RowKit Go.Deep
set_option linter.unusedVariables false
set_option linter.unusedSimpArgs false

set_option maxRecDepth 100000 in
theorem mload_bad (B mb r : Nat) (c : Ir.Mc) (ad b : Int) (n : Nat) (w : World) (ea : Nat → Addr) (E : Errs3 w ea) (M : MachAt w B mb r c) (ha : 0 ≤ ad ∧ ad < 4294967296)
    (hn : n = 1 ∨ n = 2 ∨ n = 4) (hb : b = n ∨ b = -n) (h : rightC ad n ≠ 0) :
    Calls Tryz.prog 138 #[.pointer (some ⟨mb, 0, none⟩), .int .u32 ad, .int .i64 b] w fun e w' => e = .returned (.tuple #[.int .u32 0, .bool false]) ∧ Keeps (fun _ => False) w w' := by
  have hm := M.ram
  have HL := Lib.hid (load_bad ⟨r, 0, none⟩ ad n false w ea E ha h)
  have hb2 : -4 ≤ b ∧ b ≤ 4 := by omega
  have hmax : max b (-b) = (n : Int) := by omega
  clear M h
  go_enter Tryz.func138, Tryz.ntmps138
  go_wp2_with fail
  refine HL.out.mono ?_
  rintro e w1 ⟨rfl, rfl⟩
  unfold errV
  go_wp2_with fail
  go_ret2
  exact ⟨rfl, Keeps.refl _ _⟩
theorem is_overp (k : ByteArray) : (k.toList == [111, 118, 101, 114, 43]) = (Ir.kn k == 3) := Ir.eq_lit2 k 3 (by omega)
/-- what do answers -/
def DoIs (B mb r : Nat) (S : Nat → Prop) (w : World) (res : Option Ir.Mc) (e : Ending) (w' : World) : Prop :=
  Keeps S w w' ∧ match res with
    | none => e = .returned (.bool false)
    | some c => e = .returned (.bool true) ∧ MachAt w' B mb r c
theorem DoIs.none {B mb r : Nat} {S : Nat → Prop} {w w' : World} {res : Option Ir.Mc} {e : Ending} (h : res = Option.none) (k : Keeps S w w') (he : e = .returned (.bool false)) : DoIs B mb r S w res e w' := by
  subst h; exact ⟨k, he⟩
theorem DoIs.some {B mb r : Nat} {S : Nat → Prop} {w w' : World} {res : Option Ir.Mc} {c : Ir.Mc} {e : Ending} (h : res = Option.some c) (k : Keeps S w w') (he : e = .returned (.bool true)) (M : MachAt w' B mb r c) : DoIs B mb r S w res e w' := by
  subst h; exact ⟨k, he, M⟩
end Go.Proofs.YtknhfobcejpmeaaGreatDoor

/- Mach6 -/
/- The walk of a machine's do: sums. -/
namespace Go.Proofs.YtknhfobcejpmeaaGreatDoor
open Go.RowKit Go.Deep
set_option linter.unusedVariables false
set_option linter.unusedSimpArgs false

end Go.Proofs.YtknhfobcejpmeaaGreatDoor
