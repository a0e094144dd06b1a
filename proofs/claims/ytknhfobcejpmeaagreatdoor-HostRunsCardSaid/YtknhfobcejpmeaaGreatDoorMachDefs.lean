
/- A code's machine, said plainly. -/
import Derived.Test.YtknhfobcejpmeaaGreatDoorOptDefs
import Derived.Test.YtknhfobcejpmeaaGreatDoorRamStore
namespace Go.Proofs.YtknhfobcejpmeaaGreatDoor
namespace Ir
open Go.RowKit
set_option linter.unusedVariables false
/-- a store that waits -/
structure Wt where
  addr : Int
  size : Int
  v : Int
/-- a machine: its registers, its stores that wait -/
structure Mc where
  X : Nat → Int
  ws : List Wt
/-- memory behind stores -/
def pend (m : Nat → Int) (ws : List Wt) : Nat → Int := ws.foldl (fun m s => stTo m s.addr.toNat s.size.toNat s.v s.size.toNat) m
def setX (X : Nat → Int) (d v : Int) : Nat → Int := fun k => if k = d.toNat then v else X k
def rg (X : Nat → Int) (n : Int) : Int := X n.toNat
def loadV (m : Nat → Int) (ws : List Wt) (ad b : Int) : Int := Wd.wide (be (pend m ws) ad.toNat b.natAbs) (8 * b.natAbs) (decide (b < 0))
def overV (c : Nat) (a b : Int) : Bool := if c = 4 then !Wd.isS (Wd.sg a - Wd.sg b) else !Wd.isS (Wd.sg a + Wd.sg b)
def adr (a imm : Int) : Int := (a + imm) % 4294967296
/-- an op that does not leave; none: a trap -/
def doOp (m : Nat → Int) (W : Int → Bool) (c : Mc) (o : Op) : Option Mc :=
  if kn o.k = 1 then some { c with X := setX c.X o.d o.imm }
  else if kn o.k = 2 then some { c with X := setX c.X o.d (rg c.X o.a) }
  else if kn o.k = 3 ∨ kn o.k = 4 then (if overV (kn o.k) (rg c.X o.a) (rg c.X o.b) = true then none else some c)
  else if kn o.k = 5 then (if rightC (adr (rg c.X o.a) o.imm) o.b.natAbs = 0 then some { c with X := setX c.X o.d (loadV m c.ws (adr (rg c.X o.a) o.imm) o.b) } else none)
  else if kn o.k = 6 then (if rightC (adr (rg c.X o.a) o.imm) o.d = 0 ∧ W (adr (rg c.X o.a) o.imm / 256) = false then some { c with ws := c.ws ++ [⟨adr (rg c.X o.a) o.imm, o.d, rg c.X o.b⟩] } else none)
  else some { c with X := setX c.X o.d (value (kn o.k) (rg c.X o.a) (rg c.X o.b) (rg c.X o.d)) }
/-- where an op leaves for -/
def goesTo (o : Op) (a : Int) : Option Int := if kn o.k = 7 then (if a ≠ 0 then some o.imm else none) else if kn o.k = 8 then some o.imm else if kn o.k = 9 then some a else none
inductive Res where
  | trap (at_ : Int)
  | leave (pc : Int) (c : Mc)
  | fell (c : Mc)
/-- ops, one after the other -/
def evGo (m : Nat → Int) (W : Int → Bool) : Mc → List Op → Res
  | c, [] => .fell c
  | c, o :: r => if leaves (kn o.k) = true then (match goesTo o (rg c.X o.a) with | some pc => .leave pc c | none => evGo m W c r) else match doOp m W c o with | none => .trap o.at_ | some c' => evGo m W c' r
/-- the ranges of a machine -/
structure McOk (W : Int → Bool) (c : Mc) : Prop where
  X : ∀ k, k < 64 → 0 ≤ c.X k ∧ c.X k < 4294967296
  ws : ∀ s ∈ c.ws, rightC s.addr s.size = 0 ∧ 0 ≤ s.addr ∧ (0 ≤ s.v ∧ s.v < 4294967296) ∧ W (s.addr / 256) = false
/-- an op that is right: its registers, its sizes -/
structure OpIn (o : Op) : Prop where
  k : kn o.k ≠ 0
  d : kn o.k = 1 ∨ kn o.k = 2 ∨ kn o.k = 5 ∨ 10 ≤ kn o.k → 1 ≤ o.d ∧ o.d < 64
  a : 0 ≤ o.a ∧ o.a < 64
  b : kn o.k ≠ 5 → 0 ≤ o.b ∧ o.b < 64
  ld : kn o.k = 5 → o.b = 1 ∨ o.b = 2 ∨ o.b = 4 ∨ o.b = -1 ∨ o.b = -2
  sz : kn o.k = 6 → o.d = 1 ∨ o.d = 2 ∨ o.d = 4
  imm : 0 ≤ o.imm ∧ o.imm < 4294967296
theorem opIn_of {o : Op} {many : Int} (h : opErr o many = 0) (hi : 0 ≤ o.imm ∧ o.imm < 4294967296) : OpIn o := by
  have hle := kn_le o.k
  unfold opErr at h
  split at h
  · cases h
  rename_i hk
  split at h
  · cases h
  rename_i h2
  split at h
  · cases h
  rename_i h3
  rw [Bool.not_eq_false] at h2 h3
  simp only [Bool.and_eq_true, decide_eq_true_eq] at h2
  obtain ⟨⟨⟨hr, hb⟩, _⟩, _⟩ := h2
  unfold regs at hr
  unfold bytes at hb
  unfold bare at h3
  simp only [Bool.and_eq_true, Bool.or_eq_true, decide_eq_true_eq, Bool.not_eq_true'] at hr h3
  unfold hasD hasA hasB at hr
  unfold hasD hasA hasB at h3
  simp at hr h3
  refine ⟨hk, fun h => ?_, ?_, fun h => ?_, fun h => ?_, fun h => ?_, hi⟩
  · omega
  · omega
  · omega
  · rw [if_pos h] at hb
    simpa using hb
  · rw [if_neg (by omega), if_pos h] at hb
    simpa using hb
end Ir
end Go.Proofs.YtknhfobcejpmeaaGreatDoor
