
/- A state of the processor, and how it lies. -/
import Derived.Test.YtknhfobcejpmeaaGreatDoorMem
import Derived.Test.YtknhfobcejpmeaaGreatDoorProg
import Derived.Lib.Hide
namespace Go.Proofs.YtknhfobcejpmeaaGreatDoor
open Go.RowKit Go.Deep
set_option linter.unusedVariables false

namespace Cp
/-- a state of the processor -/
structure St where
  R : Nat → Int
  hi : Int
  lo : Int
  pc : Int
  next : Int
  slot : Bool
  status : Int
  cause : Int
  epc : Int
  bad : Int
  compare : Int
  count : Int
def u (x : Int) : Int := x % 4294967296
def W (x : Int) : Prop := 0 ≤ x ∧ x < 4294967296
theorem W_u (x : Int) : W (u x) := by unfold W u; omega
theorem W_0 : W 0 := by unfold W; omega
/-- the ranges of a state -/
structure Rng (s : St) : Prop where
  R : ∀ k, k < 32 → W (s.R k)
  hi : W s.hi
  lo : W s.lo
  pc : W s.pc
  next : W s.next
  status : W s.status
  cause : W s.cause
  epc : W s.epc
  bad : W s.bad
  compare : W s.compare
  count : 0 ≤ s.count ∧ s.count < 4611686018427387904
end Cp
/-- the cells of a state -/
def regs (R : Nat → Int) : List Value := (List.range 32).map fun k => .int .u32 (R k)
def restC (s : Cp.St) : List Value := [.int .u32 s.hi, .int .u32 s.lo, .int .u32 s.pc, .int .u32 s.next, .bool s.slot, .int .u32 s.status, .int .u32 s.cause, .int .u32 s.epc, .int .u32 s.bad, .int .u32 s.compare, .int .i64 s.count]
def stL (s : Cp.St) : List Value := regs s.R ++ restC s
theorem regs_len (R : Nat → Int) : (regs R).length = 32 := by simp [regs]
def StAt (w : World) (sb : Nat) (s : Cp.St) : Prop := w.heap[sb]? = some (.cells (stL s).toArray 26 (0, 0))
theorem StAt.keep {w w' : World} {sb : Nat} {s : Cp.St} {S : Nat → Prop} (h : StAt w sb s) (k : Keeps S w w') (hs : ¬ S sb) : StAt w' sb s := (k.block sb (Array.getElem?_eq_some_iff.1 h).1 hs).trans h
theorem StAt.lt {w : World} {sb : Nat} {s : Cp.St} (h : StAt w sb s) : sb < w.heap.size := (Array.getElem?_eq_some_iff.1 h).1
theorem StAt.frozen {w : World} {sb : Nat} {s : Cp.St} (h : StAt w sb s) (o : Nat) : w.frozen? ⟨sb, o, none⟩ = false := frozen_of_block h o
theorem StAt.reg {w : World} {sb : Nat} {s : Cp.St} (h : StAt w sb s) (k : Nat) (hk : k < 32) : w.cell? ⟨sb, k, none⟩ = some (.int .u32 (s.R k)) := by
  have : (stL s)[k]? = some (.int .u32 (s.R k)) := by
    unfold stL
    rw [List.getElem?_append_left (by rw [regs_len]; exact hk)]
    simp [regs, hk]
  unfold World.cell?
  rw [h]
  simpa using this
theorem StAt.rest {w : World} {sb : Nat} {s : Cp.St} (h : StAt w sb s) (i : Nat) (v : Value) (hi : (restC s)[i]? = some v) : w.cell? ⟨sb, 32 + i, none⟩ = some v := by
  have : (stL s)[32 + i]? = some v := by
    unfold stL
    rw [List.getElem?_append_right (by rw [regs_len]; omega), regs_len, show 32 + i - 32 = i by omega]
    exact hi
  unfold World.cell?
  rw [h]
  simpa using this
theorem StAt.cells {w : World} {sb : Nat} {s : Cp.St} (h : StAt w sb s) :
    w.cell? ⟨sb, 32, none⟩ = some (.int .u32 s.hi) ∧ w.cell? ⟨sb, 33, none⟩ = some (.int .u32 s.lo) ∧ w.cell? ⟨sb, 34, none⟩ = some (.int .u32 s.pc) ∧ w.cell? ⟨sb, 35, none⟩ = some (.int .u32 s.next) ∧
    w.cell? ⟨sb, 36, none⟩ = some (.bool s.slot) ∧ w.cell? ⟨sb, 37, none⟩ = some (.int .u32 s.status) ∧ w.cell? ⟨sb, 38, none⟩ = some (.int .u32 s.cause) ∧ w.cell? ⟨sb, 39, none⟩ = some (.int .u32 s.epc) ∧
    w.cell? ⟨sb, 40, none⟩ = some (.int .u32 s.bad) ∧ w.cell? ⟨sb, 41, none⟩ = some (.int .u32 s.compare) ∧ w.cell? ⟨sb, 42, none⟩ = some (.int .i64 s.count) :=
  ⟨h.rest 0 _ rfl, h.rest 1 _ rfl, h.rest 2 _ rfl, h.rest 3 _ rfl, h.rest 4 _ rfl, h.rest 5 _ rfl, h.rest 6 _ rfl, h.rest 7 _ rfl, h.rest 8 _ rfl, h.rest 9 _ rfl, h.rest 10 _ rfl⟩
/-- a cell of the rest is set -/
theorem StAt.set {w : World} {sb : Nat} {s s' : Cp.St} (h : StAt w sb s) (i : Nat) (v : Value) (hR : s'.R = s.R) (hi : (restC s).set i v = restC s') : StAt (w.setCell ⟨sb, 32 + i, none⟩ v) sb s' := by
  have := set_block h (32 + i) v
  unfold StAt
  rw [this]
  congr 2
  rw [List.setIfInBounds_toArray]
  congr 1
  unfold stL
  rw [List.set_append_right _ _ (by rw [regs_len]; omega), regs_len, show 32 + i - 32 = i by omega, hi, hR]
theorem StAt.setReg {w : World} {sb : Nat} {s : Cp.St} (h : StAt w sb s) (k : Nat) (hk : k < 32) (v : Int) : StAt (w.setCell ⟨sb, k, none⟩ (.int .u32 v)) sb { s with R := fun j => if j = k then v else s.R j } := by
  have := set_block h k (.int .u32 v)
  unfold StAt
  rw [this]
  congr 2
  rw [List.setIfInBounds_toArray]
  congr 1
  unfold stL
  rw [List.set_append_left _ _ (by rw [regs_len]; exact hk)]
  congr 1
  apply List.ext_getElem?
  intro j
  unfold regs
  rw [List.getElem?_set]
  simp only [List.length_map, List.length_range, List.getElem?_map]
  by_cases e : k = j
  · subst e
    simp [hk]
  · rw [if_neg e]
    by_cases hj : j < 32
    · simp [hj, show ¬ j = k by omega]
    · simp [hj]

end Go.Proofs.YtknhfobcejpmeaaGreatDoor
