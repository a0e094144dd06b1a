
/- A state of the processor, and how it lies. -/
import Derived.Test.YtknhfobcejpmeaaDoorMem
import Derived.Test.YtknhfobcejpmeaaDoorProg
import Derived.Lib.Hide
namespace Go.Proofs.YtknhfobcejpmeaaDoor
open Go.RowKit Go.Deep
set_option linter.unusedVariables false

namespace Cp
/-- a state of the processor -/
structure St where
  R : Nat → Int
  hi : Int
  lo : Int
  pc : Int
  next : Int
  slot : Bool
  status : Int
  cause : Int
  epc : Int
  bad : Int
  compare : Int
  count : Int
def u (x : Int) : Int := x % 4294967296
def W (x : Int) : Prop := 0 ≤ x ∧ x < 4294967296
theorem W_u (x : Int) : W (u x) := by unfold W u; omega
theorem W_0 : W 0 := by unfold W; omega
/-- the ranges of a state -/
structure Rng (s : St) : Prop where
  R : ∀ k, k < 32 → W (s.R k)
  hi : W s.hi
  lo : W s.lo
  pc : W s.pc
  next : W s.next
  status : W s.status
  cause : W s.cause
  epc : W s.epc
  bad : W s.bad
  compare : W s.compare
  count : 0 ≤ s.count ∧ s.count < 4611686018427387904
end Cp
/-- the cells of a state -/
def regs (R : Nat → Int) : List Value := (List.range 32).map fun k => .int .u32 (R k)
def restC (s : Cp.St) : List Value := [.int .u32 s.hi, .int .u32 s.lo, .int .u32 s.pc, .int .u32 s.next, .bool s.slot, .int .u32 s.status, .int .u32 s.cause, .int .u32 s.epc, .int .u32 s.bad, .int .u32 s.compare, .int .i64 s.count]
def stL (s : Cp.St) : List Value := regs s.R ++ restC s
theorem regs_len (R : Nat → Int) : (regs R).length = 32 := by simp [regs]
end Go.Proofs.YtknhfobcejpmeaaDoor
