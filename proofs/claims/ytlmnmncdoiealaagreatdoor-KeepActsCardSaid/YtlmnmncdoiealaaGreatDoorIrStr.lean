
/- The walks of strings.Contains at one letter, and of what it calls (the shelf's own walks, laid for this program). -/
import Derived.Test.YtlmnmncdoiealaaGreatDoorMem
import Derived.Test.YtlmnmncdoiealaaGreatDoorChecked
import Derived.Lib.Strings
import Derived.Lib.Slices
import Derived.Lib.Walk
import Derived.Lib.Bytealg
import Derived.Test.YtlmnmncdoiealaaGreatDoorIrDefs
namespace Go.Proofs.YtlmnmncdoiealaaGreatDoor
open Go.RowKit
set_option linter.unusedVariables false

set_option maxHeartbeats 1000000 in
set_option maxRecDepth 100000 in
theorem indexByte_any (s : ByteArray) (c : Int) (w : World) :
    Calls Tryz.prog 106 #[.string s, .int .u8 c] w fun e w' => e = .returned (.int .i64 (Lib.indexByte s.data.toList c.toNat.toUInt8)) ∧ w' = w := by
  go_enter Tryz.func106, Tryz.ntmps106
  go_wp2
  rw [run_callFunc_extern Tryz.func110 (by kernel_rfl) (by kernel_rfl) (by kernel_rfl) (e := Extern.BytealgIndexByte.indexByte) (by kernel_rfl), Lib.run_indexByteString]
  simp only [Result.andThen]
  rw [Oper.upon_value]
  go_wp2
  go_ret
  exact ⟨rfl, rfl⟩
set_option maxHeartbeats 2000000 in
set_option maxRecDepth 100000 in
theorem liteIndex_one (s : ByteArray) (c : UInt8) (w : World) :
    Calls Tryz.prog 105 #[.string s, .string ⟨#[c]⟩] w fun e w' => e = .returned (.int .i64 (Lib.indexByte s.data.toList c)) ∧ w' = w := by
  go_enter Tryz.func105, Tryz.ntmps105
  go_wp2_with (go_at_call 106; refine (indexByte_any _ _ _).mono ?_; rintro e w' ⟨rfl, rfl⟩)
  · have h : ([c] == s.toList) = true := by assumption
    go_ret
    refine ⟨?_, rfl⟩
    have e : s.data.toList = [c] := by rw [← Lib.toList_data]; exact (beq_iff_eq.1 h).symm
    rw [e]
    simp [Lib.indexByte]
  · go_ret
    exact ⟨rfl, rfl⟩
set_option maxHeartbeats 1000000 in
theorem strIndex_one (s : ByteArray) (c : UInt8) (w : World) :
    Calls Tryz.prog 104 #[.string s, .string ⟨#[c]⟩] w fun e w' => e = .returned (.int .i64 (Lib.indexByte s.data.toList c)) ∧ w' = w := by
  go_enter Tryz.func104, Tryz.ntmps104
  go_wp2_with (go_at_call 105; refine (liteIndex_one _ _ _).mono ?_; rintro e w' ⟨rfl, rfl⟩)
  go_ret
  exact ⟨rfl, rfl⟩
set_option maxHeartbeats 1000000 in
theorem contains_one (s : ByteArray) (c : UInt8) (w : World) :
    Calls Tryz.prog 99 #[.string s, .string ⟨#[c]⟩] w fun e w' => e = .returned (.bool (decide (0 ≤ Lib.indexByte s.data.toList c))) ∧ w' = w := by
  go_enter Tryz.func99, Tryz.ntmps99
  go_wp2_with (go_at_call 104; refine (strIndex_one _ _ _).mono ?_; rintro e w' ⟨rfl, rfl⟩)
  go_ret
  exact ⟨rfl, rfl⟩

/-- a kind's fields, as a text -/
def fieldsB (c : Nat) : ByteArray := ⟨(Ir.fieldsS c).toArray⟩
/-- has a kind a field? -/
def hasL (c : Nat) (l : UInt8) : Bool := if l = 68 then Ir.hasD c else if l = 65 then Ir.hasA c else if l = 66 then Ir.hasB c else Ir.hasI c
set_option maxRecDepth 100000 in
theorem idx_fields (c : Nat) (hc : c ≤ 27) (l : UInt8) (hl : l = 68 ∨ l = 65 ∨ l = 66 ∨ l = 73) : decide (0 ≤ Lib.indexByte (fieldsB c).data.toList l) = hasL c l := by
  have key : ∀ c : Fin 28, ∀ l ∈ [(68 : UInt8), 65, 66, 73], decide (0 ≤ Lib.indexByte (fieldsB c.val).data.toList l) = hasL c.val l := by decide +kernel
  exact key ⟨c, by omega⟩ l (by rcases hl with rfl | rfl | rfl | rfl <;> decide)
theorem contains_fields (c : Nat) (hc : c ≤ 27) (l : UInt8) (hl : l = 68 ∨ l = 65 ∨ l = 66 ∨ l = 73) (w : World) :
    Calls Tryz.prog 99 #[.string (fieldsB c), .string ⟨#[l]⟩] w fun e w' => e = .returned (.bool (hasL c l)) ∧ w' = w :=
  (contains_one _ l w).mono fun e w' ⟨he, hw⟩ => by
    rw [idx_fields c hc l hl] at he
    exact ⟨he, hw⟩
end Go.Proofs.YtlmnmncdoiealaaGreatDoor
