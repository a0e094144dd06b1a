import Derived.Test.YtlmnmncdoiealaaGreatDoorKaz02
import Derived.Deep.RegionHeld3
import Derived.Test.YtlmnmncdoiealaaGreatDoorOptDefs
import Derived.Test.YtlmnmncdoiealaaGreatDoorMem
import Derived.Test.YtlmnmncdoiealaaGreatDoorProg
import Derived.Lib.Hide
import Derived.StillTailTactics
import Derived.LoopTactic
import Derived.Deep.DeepCutAuto
import Derived.Deep.CutRange
import Derived.WalkLawsBesides
import Derived.BigQuiet

/- Alike -/
/- The walk of AlikeWords over words that are alike. -/
namespace Go.Proofs.YtlmnmncdoiealaaGreatDoor
open Go.RowKit Go.Deep
set_option linter.unusedVariables false

set_option maxHeartbeats 1000000 in
theorem alike_same (a b n ca cb : Nat) (f : Nat → Int) (w : World) (hn : n ≤ 4096) (hca : n ≤ ca ∧ ca ≤ 9223372036854775807) (hcb : n ≤ cb ∧ cb ≤ 9223372036854775807)
    (ha : ∀ i, i < n → w.cell? ⟨a, i, none⟩ = some (.int .u32 (f i))) (hb : ∀ i, i < n → w.cell? ⟨b, i, none⟩ = some (.int .u32 (f i))) :
    Calls Tryz.prog 16 #[.slice (some ⟨a, 0, none⟩) n ca, .slice (some ⟨b, 0, none⟩) n cb] w fun e w' => e = .returned (.int .i64 1) ∧ Keeps (fun _ => False) w w' := by
  go_enter Tryz.func16, Tryz.ntmps16
  go_wp2_with fail
  go_loopw [5] (fun s5 wr => ∃ i : Nat, i ≤ n ∧ s5 = .int .i64 i ∧ Keeps (fun _ => False) w wr) (fun s5 _ => n - (intOf s5).toNat)
  case atStart => exact ⟨0, by omega, rfl, Keeps.refl _ w⟩
  case round =>
    obtain ⟨i, hi, rfl, hK⟩ := hrel
    by_cases hlt : i < n
    · have h1 := hK.cell' (ha i hlt) (fun f => f)
      have h2 := hK.cell' (hb i hlt) (fun f => f)
      go_wp2_with fail
      go_quiet (fail)
      go_wp2_with fail
      go_roundw
      case rel => exact ⟨i + 1, by omega, by go_num, hK.drewN _⟩
      case measure => simp [intOf]; omega
    · obtain rfl : i = n := by omega
      go_wp2_with fail
      go_ret
      exact ⟨rfl, hK⟩
end Go.Proofs.YtlmnmncdoiealaaGreatDoor

/- RefNewD -/
/- The walks of the reference's NewRam and NewBus. -/
namespace Go.Proofs.YtlmnmncdoiealaaGreatDoor
open Go.RowKit Go.Deep
set_option linter.unusedVariables false

/-- words as they are laid -/
def wdOf (n : Nat) (ws : Nat → Int) (i : Nat) : Int := if i < n then ws i else 0
theorem be_ramOf (n : Nat) (ws : Nat → Int) (i : Nat) (hr : ∀ i, i < n → 0 ≤ ws i ∧ ws i < 4294967296) : be (ramOf n ws) (4 * i) 4 = wdOf n ws i := by
  rw [be4]
  unfold ramOf wdOf Wb
  by_cases h : i < n
  · have := hr i h
    rw [if_pos (by omega), if_pos (by omega), if_pos (by omega), if_pos (by omega), if_pos h]
    have e0 : 4 * i / 4 = i := by omega
    have e1 : (4 * i + 1) / 4 = i := by omega
    have e2 : (4 * i + 2) / 4 = i := by omega
    have e3 : (4 * i + 3) / 4 = i := by omega
    have f0 : 4 * i % 4 = 0 := by omega
    have f1 : (4 * i + 1) % 4 = 1 := by omega
    have f2 : (4 * i + 2) % 4 = 2 := by omega
    have f3 : (4 * i + 3) % 4 = 3 := by omega
    rw [e0, e1, e2, e3, f0, f1, f2, f3]
    show 16777216 * (ws i / 16777216 % 256) + 65536 * (ws i / 65536 % 256) + 256 * (ws i / 256 % 256) + ws i / 1 % 256 = ws i
    omega
  · rw [if_neg (by omega), if_neg (by omega), if_neg (by omega), if_neg (by omega), if_neg h]
    omega

theorem rowTo_made (w : World) (z : Value) (n : Nat) (t : TypeId) : RowTo (w.alloc (.cells (madeCells #[z] n) t)) w.heap.size t n (fun _ => z) := RowTo.of_row (World.rowIs_made w z n t)

end Go.Proofs.YtlmnmncdoiealaaGreatDoor

/- MachDefs -/
/- A code's machine, said plainly. -/
namespace Go.Proofs.YtlmnmncdoiealaaGreatDoor
namespace Ir
open Go.RowKit
set_option linter.unusedVariables false
/-- a store that waits -/
structure Wt where
  addr : Int
  size : Int
  v : Int
/-- a machine: its registers, its stores that wait -/
structure Mc where
  X : Nat → Int
  ws : List Wt
/-- memory behind stores -/
def pend (m : Nat → Int) (ws : List Wt) : Nat → Int := ws.foldl (fun m s => stTo m s.addr.toNat s.size.toNat s.v s.size.toNat) m
def setX (X : Nat → Int) (d v : Int) : Nat → Int := fun k => if k = d.toNat then v else X k
def rg (X : Nat → Int) (n : Int) : Int := X n.toNat
def loadV (m : Nat → Int) (ws : List Wt) (ad b : Int) : Int := Wd.wide (be (pend m ws) ad.toNat b.natAbs) (8 * b.natAbs) (decide (b < 0))
def overV (c : Nat) (a b : Int) : Bool := if c = 4 then !Wd.isS (Wd.sg a - Wd.sg b) else !Wd.isS (Wd.sg a + Wd.sg b)
def adr (a imm : Int) : Int := (a + imm) % 4294967296
/-- an op that does not leave; none: a trap -/
def doOp (m : Nat → Int) (W : Int → Bool) (c : Mc) (o : Op) : Option Mc :=
  if kn o.k = 1 then some { c with X := setX c.X o.d o.imm }
  else if kn o.k = 2 then some { c with X := setX c.X o.d (rg c.X o.a) }
  else if kn o.k = 3 ∨ kn o.k = 4 then (if overV (kn o.k) (rg c.X o.a) (rg c.X o.b) = true then none else some c)
  else if kn o.k = 5 then (if rightC (adr (rg c.X o.a) o.imm) o.b.natAbs = 0 then some { c with X := setX c.X o.d (loadV m c.ws (adr (rg c.X o.a) o.imm) o.b) } else none)
  else if kn o.k = 6 then (if rightC (adr (rg c.X o.a) o.imm) o.d = 0 ∧ W (adr (rg c.X o.a) o.imm / 256) = false then some { c with ws := c.ws ++ [⟨adr (rg c.X o.a) o.imm, o.d, rg c.X o.b⟩] } else none)
  else some { c with X := setX c.X o.d (value (kn o.k) (rg c.X o.a) (rg c.X o.b) (rg c.X o.d)) }
/-- where an op leaves for -/
def goesTo (o : Op) (a : Int) : Option Int := if kn o.k = 7 then (if a ≠ 0 then some o.imm else none) else if kn o.k = 8 then some o.imm else if kn o.k = 9 then some a else none
inductive Res where
  | trap (at_ : Int)
  | leave (pc : Int) (c : Mc)
  | fell (c : Mc)
/-- ops, one after the other -/
def evGo (m : Nat → Int) (W : Int → Bool) : Mc → List Op → Res
  | c, [] => .fell c
  | c, o :: r => if leaves (kn o.k) = true then (match goesTo o (rg c.X o.a) with | some pc => .leave pc c | none => evGo m W c r) else match doOp m W c o with | none => .trap o.at_ | some c' => evGo m W c' r
/-- the ranges of a machine -/
structure McOk (W : Int → Bool) (c : Mc) : Prop where
  X : ∀ k, k < 64 → 0 ≤ c.X k ∧ c.X k < 4294967296
  ws : ∀ s ∈ c.ws, rightC s.addr s.size = 0 ∧ 0 ≤ s.addr ∧ (0 ≤ s.v ∧ s.v < 4294967296) ∧ W (s.addr / 256) = false
/-- an op that is right: its registers, its sizes -/
structure OpIn (o : Op) : Prop where
  k : kn o.k ≠ 0
  d : kn o.k = 1 ∨ kn o.k = 2 ∨ kn o.k = 5 ∨ 10 ≤ kn o.k → 1 ≤ o.d ∧ o.d < 64
  a : 0 ≤ o.a ∧ o.a < 64
  b : kn o.k ≠ 5 → 0 ≤ o.b ∧ o.b < 64
  ld : kn o.k = 5 → o.b = 1 ∨ o.b = 2 ∨ o.b = 4 ∨ o.b = -1 ∨ o.b = -2
  sz : kn o.k = 6 → o.d = 1 ∨ o.d = 2 ∨ o.d = 4
  imm : 0 ≤ o.imm ∧ o.imm < 4294967296
theorem opIn_of {o : Op} {many : Int} (h : opErr o many = 0) (hi : 0 ≤ o.imm ∧ o.imm < 4294967296) : OpIn o := by
  have hle := kn_le o.k
  unfold opErr at h
  split at h
  · cases h
  rename_i hk
  split at h
  · cases h
  rename_i h2
  split at h
  · cases h
  rename_i h3
  rw [Bool.not_eq_false] at h2 h3
  simp only [Bool.and_eq_true, decide_eq_true_eq] at h2
  obtain ⟨⟨⟨hr, hb⟩, _⟩, _⟩ := h2
  unfold regs at hr
  unfold bytes at hb
  unfold bare at h3
  simp only [Bool.and_eq_true, Bool.or_eq_true, decide_eq_true_eq, Bool.not_eq_true'] at hr h3
  unfold hasD hasA hasB at hr
  unfold hasD hasA hasB at h3
  simp at hr h3
  refine ⟨hk, fun h => ?_, ?_, fun h => ?_, fun h => ?_, fun h => ?_, hi⟩
  · omega
  · omega
  · omega
  · rw [if_pos h] at hb
    simpa using hb
  · rw [if_neg (by omega), if_pos h] at hb
    simpa using hb
end Ir
end Go.Proofs.YtlmnmncdoiealaaGreatDoor

/- StDefs -/
/- A state of the processor, and how it lies. -/
namespace Go.Proofs.YtlmnmncdoiealaaGreatDoor
open Go.RowKit Go.Deep
set_option linter.unusedVariables false

namespace Cp
/-- a state of the processor -/
structure St where
  R : Nat → Int
  hi : Int
  lo : Int
  pc : Int
  next : Int
  slot : Bool
  status : Int
  cause : Int
  epc : Int
  bad : Int
  compare : Int
  count : Int
def u (x : Int) : Int := x % 4294967296
def W (x : Int) : Prop := 0 ≤ x ∧ x < 4294967296
theorem W_u (x : Int) : W (u x) := by unfold W u; omega
theorem W_0 : W 0 := by unfold W; omega
/-- the ranges of a state -/
structure Rng (s : St) : Prop where
  R : ∀ k, k < 32 → W (s.R k)
  hi : W s.hi
  lo : W s.lo
  pc : W s.pc
  next : W s.next
  status : W s.status
  cause : W s.cause
  epc : W s.epc
  bad : W s.bad
  compare : W s.compare
  count : 0 ≤ s.count ∧ s.count < 4611686018427387904
end Cp
/-- the cells of a state -/
def regs (R : Nat → Int) : List Value := (List.range 32).map fun k => .int .u32 (R k)
def restC (s : Cp.St) : List Value := [.int .u32 s.hi, .int .u32 s.lo, .int .u32 s.pc, .int .u32 s.next, .bool s.slot, .int .u32 s.status, .int .u32 s.cause, .int .u32 s.epc, .int .u32 s.bad, .int .u32 s.compare, .int .i64 s.count]
def stL (s : Cp.St) : List Value := regs s.R ++ restC s
theorem regs_len (R : Nat → Int) : (regs R).length = 32 := by simp [regs]
end Go.Proofs.YtlmnmncdoiealaaGreatDoor

/- Mach -/
/- A code's machine as it lies; the walk of NewMachine. -/
namespace Go.Proofs.YtlmnmncdoiealaaGreatDoor
open Go.RowKit Go.Deep
set_option linter.unusedVariables false
set_option linter.unusedSimpArgs false

/-- the cells of a machine -/
def machF (X : Nat → Int) (rp : Nat) (v : Value) (k : Nat) : Value := if k < 64 then .int .u32 (X k) else if k = 64 then .pointer (some ⟨rp, 0, none⟩) else v
/-- the cells of stores that wait -/
def wtL (l : List Ir.Wt) : List Value := l.flatMap (fun s => [.int .u32 s.addr, .int .i64 s.size, .int .u32 s.v])
theorem rowIs_lt {w : World} {b : Nat} {t : TypeId} {n : Nat} {f : Nat → Value} (h : w.rowIs b t n f) : b < w.heap.size := by
  obtain ⟨c, hb, _⟩ := h
  exact (Array.getElem?_eq_some_iff.1 hb).1
theorem rowIs_cell {w : World} {b : Nat} {t : TypeId} {n : Nat} {f : Nat → Value} (h : w.rowIs b t n f) (i : Nat) (hi : i < n) : w.cell? ⟨b, i, none⟩ = some (f i) := by
  obtain ⟨c, hb, _, hc⟩ := h
  unfold World.cell?
  rw [hb]
  exact hc i hi
theorem rowIs_frozen {w : World} {b : Nat} {t : TypeId} {n : Nat} {f : Nat → Value} (h : w.rowIs b t n f) (i : Nat) : w.frozen? ⟨b, i, none⟩ = false := by
  obtain ⟨c, hb, _, _⟩ := h
  exact frozen_of_block hb i
theorem keeps_rowIs {S : Nat → Prop} {w w' : World} {b : Nat} {t : TypeId} {n : Nat} {f : Nat → Value} (k : Keeps S w w') (h : w.rowIs b t n f) (hs : ¬ S b) : w'.rowIs b t n f := by
  obtain ⟨c, hb, h1, h2⟩ := h
  exact ⟨c, (k.block b (Array.getElem?_eq_some_iff.1 hb).1 hs).trans hb, h1, h2⟩
def mach0 (rp : Nat) : List Value := (List.range 64).map (fun _ => .int .u32 0) ++ [.pointer (some ⟨rp, 0, none⟩), .slice none 0 0]
/-- the machine that a state begins with -/
def Ir.mc0 (s : Cp.St) : Ir.Mc := ⟨fun k => if k < 32 then s.R k else if k = 32 then s.hi else if k = 33 then s.lo else 0, []⟩
end Go.Proofs.YtlmnmncdoiealaaGreatDoor

/- RunDefs -/
/- What the document's answer says of rows of ops, plainly; and that rows of one op each go as a code goes. -/
namespace Go.Proofs.YtlmnmncdoiealaaGreatDoor
open Go.RowKit
set_option linter.unusedVariables false
namespace Ir
/-- what an op comes to -/
structure RRes where
  v : Int
  addr : Int
  trap : Bool
  leave : Bool
def resOf (X : Nat → Int) (m : Nat → Int) (W : Int → Bool) (o : Op) : RRes :=
  if kn o.k = 1 then ⟨o.imm, 0, false, false⟩
  else if kn o.k = 2 then ⟨rg X o.a, 0, false, false⟩
  else if kn o.k = 3 ∨ kn o.k = 4 then ⟨0, 0, overV (kn o.k) (rg X o.a) (rg X o.b), false⟩
  else if kn o.k = 5 then (if rightC (adr (rg X o.a) o.imm) o.b.natAbs = 0 then ⟨Wd.wide (be m (adr (rg X o.a) o.imm).toNat o.b.natAbs) (8 * o.b.natAbs) (decide (o.b < 0)), 0, false, false⟩ else ⟨0, 0, true, false⟩)
  else if kn o.k = 6 then (if rightC (adr (rg X o.a) o.imm) o.d = 0 then ⟨rg X o.b, adr (rg X o.a) o.imm, W (adr (rg X o.a) o.imm / 256), false⟩ else ⟨0, 0, true, false⟩)
  else if kn o.k = 7 then ⟨0, o.imm, false, decide (rg X o.a ≠ 0)⟩
  else if kn o.k = 8 then ⟨0, o.imm, false, true⟩
  else if kn o.k = 9 then ⟨0, rg X o.a, false, true⟩
  else ⟨value (kn o.k) (rg X o.a) (rg X o.b) (rg X o.d), 0, false, false⟩
/-- registers and memory behind an op -/
def applyX (X : Nat → Int) (o : Op) (r : RRes) : Nat → Int := if 0 < writes o then setX X (writes o) r.v else X
def applyM (m : Nat → Int) (o : Op) (r : RRes) : Nat → Int := if kn o.k = 6 then stTo m r.addr.toNat o.d.toNat r.v o.d.toNat else m
def applyRow : (Nat → Int) → (Nat → Int) → List (Op × RRes) → (Nat → Int) × (Nat → Int)
  | X, m, [] => (X, m)
  | X, m, p :: r => applyRow (applyX X p.1 p.2) (applyM m p.1 p.2) r
/-- where a row leaves for: the last that leaves -/
def leaveTo : Option Int → List RRes → Option Int
  | c, [] => c
  | c, r :: l => leaveTo (if r.leave = true then some r.addr else c) l
inductive REnd where
  | trap (at_ : Int)
  | leave (pc : Int) (X m : Nat → Int)
  | fell
/-- the first op of a row that traps -/
def trapOf (X m : Nat → Int) (W : Int → Bool) : List Op → Option Int
  | [] => none
  | o :: r => if (resOf X m W o).trap = true then some o.at_ else trapOf X m W r
def runRows (W : Int → Bool) : (Nat → Int) → (Nat → Int) → List (List Op) → REnd
  | X, m, [] => .fell
  | X, m, l :: r =>
    match trapOf X m W l with
    | some a => .trap a
    | none =>
      match leaveTo none (l.map (resOf X m W)) with
      | some pc => .leave pc (applyRow X m (l.map fun o => (o, resOf X m W o))).1 (applyRow X m (l.map fun o => (o, resOf X m W o))).2
      | none => runRows W (applyRow X m (l.map fun o => (o, resOf X m W o))).1 (applyRow X m (l.map fun o => (o, resOf X m W o))).2 r
/-- an end of a run, as the code's machine says it -/
def resEnd (m : Nat → Int) : Res → REnd
  | .trap a => .trap a
  | .leave pc c => .leave pc c.X (pend m c.ws)
  | .fell _ => .fell
theorem pend_append (m : Nat → Int) (ws : List Wt) (s : Wt) : pend m (ws ++ [s]) = stTo (pend m ws) s.addr.toNat s.size.toNat s.v s.size.toNat := by
  unfold pend
  rw [List.foldl_append]
  rfl
theorem leaves_not {c : Nat} (h : ¬ leaves c = true) : ¬ (7 ≤ c ∧ c ≤ 9) := fun h' => h (by unfold leaves; exact decide_eq_true h')
theorem writes_d {o : Op} (h : kn o.k = 1 ∨ kn o.k = 2 ∨ kn o.k = 5 ∨ 10 ≤ kn o.k) : writes o = o.d := by
  unfold writes
  have : hasD (kn o.k) = true := by unfold hasD; simp; omega
  rw [this, decide_eq_true (show kn o.k ≠ 6 by omega)]
  rfl
theorem writes_0 {o : Op} (h : kn o.k = 3 ∨ kn o.k = 4 ∨ (6 ≤ kn o.k ∧ kn o.k ≤ 9)) : writes o = 0 := by
  unfold writes
  have : hasD (kn o.k) = false ∨ kn o.k = 6 := by
    by_cases h6 : kn o.k = 6
    · exact .inr h6
    · left; unfold hasD; simp; omega
  rcases this with h | h
  · rw [h]; rfl
  · rw [h]; rfl
theorem one_stay (m : Nat → Int) (W : Int → Bool) (c : Mc) (o : Op) (hio : OpIn o) (hl : ¬ leaves (kn o.k) = true) :
    (doOp m W c o = none → (resOf c.X (pend m c.ws) W o).trap = true) ∧
    (∀ c', doOp m W c o = some c' → (resOf c.X (pend m c.ws) W o).trap = false ∧ (resOf c.X (pend m c.ws) W o).leave = false ∧ applyX c.X o (resOf c.X (pend m c.ws) W o) = c'.X ∧ applyM (pend m c.ws) o (resOf c.X (pend m c.ws) W o) = pend m c'.ws) := by
  have hn := leaves_not hl
  have hle := kn_le o.k
  have hk := hio.k
  have hwr : (kn o.k = 1 ∨ kn o.k = 2 ∨ kn o.k = 5 ∨ 10 ≤ kn o.k) → ∀ r : RRes, applyX c.X o r = setX c.X o.d r.v := fun h r => by
    unfold applyX
    rw [writes_d h, if_pos (by have := (hio.d h).1; omega)]
  have hw0 : (kn o.k = 3 ∨ kn o.k = 4 ∨ kn o.k = 6) → ∀ r : RRes, applyX c.X o r = c.X := fun h r => by
    unfold applyX
    rw [writes_0 (by omega), if_neg (by omega)]
  rcases (show kn o.k = 1 ∨ kn o.k = 2 ∨ kn o.k = 3 ∨ kn o.k = 4 ∨ kn o.k = 5 ∨ kn o.k = 6 ∨ 10 ≤ kn o.k by omega) with h | h | h | h | h | h | h
  · refine ⟨fun e => by simp [doOp, h] at e, fun c' e => ?_⟩
    simp [doOp, h] at e
    subst e
    rw [hwr (by omega)]
    simp [resOf, applyM, h]
  · refine ⟨fun e => by simp [doOp, h] at e, fun c' e => ?_⟩
    simp [doOp, h] at e
    subst e
    rw [hwr (by omega)]
    simp [resOf, applyM, h]
  · refine ⟨fun e => by simpa [doOp, resOf, h] using e, fun c' e => ?_⟩
    simp [doOp, h] at e
    obtain ⟨e1, rfl⟩ := e
    rw [hw0 (by omega)]
    simp [resOf, applyM, h, e1]
  · refine ⟨fun e => by simpa [doOp, resOf, h] using e, fun c' e => ?_⟩
    simp [doOp, h] at e
    obtain ⟨e1, rfl⟩ := e
    rw [hw0 (by omega)]
    simp [resOf, applyM, h, e1]
  · by_cases hr : rightC (adr (rg c.X o.a) o.imm) o.b.natAbs = 0
    · refine ⟨fun e => by simp [doOp, h, hr] at e, fun c' e => ?_⟩
      simp [doOp, h, hr] at e
      subst e
      rw [hwr (by omega)]
      simp [resOf, applyM, h, hr, loadV]
    · refine ⟨fun e => by simp [resOf, h, hr], fun c' e => ?_⟩
      simp [doOp, h, hr] at e
  · by_cases hr : rightC (adr (rg c.X o.a) o.imm) o.d = 0
    · by_cases hw : W (adr (rg c.X o.a) o.imm / 256) = false
      · refine ⟨fun e => by simp [doOp, h, hr, hw] at e, fun c' e => ?_⟩
        simp [doOp, h, hr, hw] at e
        subst e
        refine ⟨by simp [resOf, h, hr, hw], by simp [resOf, h, hr], hw0 (by omega) _, ?_⟩
        rw [pend_append]
        simp [resOf, applyM, h, hr]
      · refine ⟨fun e => by simpa [resOf, h, hr] using hw, fun c' e => ?_⟩
        simp [doOp, h, hr, hw] at e
    · refine ⟨fun e => by simp [resOf, h, hr], fun c' e => ?_⟩
      simp [doOp, h, hr] at e
  · have e1 : doOp m W c o = some { c with X := setX c.X o.d (value (kn o.k) (rg c.X o.a) (rg c.X o.b) (rg c.X o.d)) } := by
      unfold doOp
      rw [if_neg (by omega), if_neg (by omega), if_neg (by omega), if_neg (by omega), if_neg (by omega)]
    have e2 : resOf c.X (pend m c.ws) W o = ⟨value (kn o.k) (rg c.X o.a) (rg c.X o.b) (rg c.X o.d), 0, false, false⟩ := by
      unfold resOf
      rw [if_neg (by omega), if_neg (by omega), if_neg (by omega), if_neg (by omega), if_neg (by omega), if_neg (by omega), if_neg (by omega), if_neg (by omega)]
    refine ⟨fun e => (by rw [e1] at e; cases e), fun c' e => ?_⟩
    rw [e1] at e
    injection e with e
    subst e
    rw [e2]
    refine ⟨rfl, rfl, ?_, ?_⟩
    · rw [hwr (by omega)]
    · unfold applyM
      rw [if_neg (by omega)]
theorem row_one_trap {X m : Nat → Int} {W : Int → Bool} {o : Op} {r : List (List Op)} (h : (resOf X m W o).trap = true) : runRows W X m ([o] :: r) = .trap o.at_ := by
  unfold runRows
  simp [trapOf, h]
theorem row_one_leave {X m : Nat → Int} {W : Int → Bool} {o : Op} {r : List (List Op)} (h : (resOf X m W o).trap = false) (h2 : (resOf X m W o).leave = true) :
    runRows W X m ([o] :: r) = .leave (resOf X m W o).addr (applyX X o (resOf X m W o)) (applyM m o (resOf X m W o)) := by
  unfold runRows
  simp [trapOf, h, leaveTo, h2, applyRow]
theorem row_one_stay {X m : Nat → Int} {W : Int → Bool} {o : Op} {r : List (List Op)} (h : (resOf X m W o).trap = false) (h2 : (resOf X m W o).leave = false) :
    runRows W X m ([o] :: r) = runRows W (applyX X o (resOf X m W o)) (applyM m o (resOf X m W o)) r := by
  conv => lhs; unfold runRows
  simp [trapOf, h, leaveTo, h2, applyRow]
/-- ROWS OF ONE OP EACH GO AS THE CODE GOES -/
theorem runRows_one (m : Nat → Int) (W : Int → Bool) : ∀ (l : List Op) (c : Mc), (∀ o ∈ l, OpIn o) → runRows W c.X (pend m c.ws) (l.map fun o => [o]) = resEnd m (evGo m W c l)
  | [], c, _ => rfl
  | o :: r, c, hk => by
    have ih := runRows_one m W r
    have hkr : ∀ o ∈ r, OpIn o := fun o ho => hk o (List.mem_cons_of_mem _ ho)
    have hko := hk o (List.mem_cons_self ..)
    rw [List.map_cons]
    unfold evGo
    by_cases hl : leaves (kn o.k) = true
    · rw [if_pos hl]
      have hl' := hl
      unfold leaves at hl'
      have hl' := of_decide_eq_true hl'
      have hX : ∀ x, applyX c.X o x = c.X := fun x => by unfold applyX; rw [writes_0 (by omega), if_neg (by omega)]
      have hM : ∀ x, applyM (pend m c.ws) o x = pend m c.ws := fun x => by unfold applyM; rw [if_neg (by omega)]
      rcases (show kn o.k = 7 ∨ kn o.k = 8 ∨ kn o.k = 9 by omega) with h | h | h
      · by_cases h0 : rg c.X o.a = 0
        · rw [row_one_stay (by simp [resOf, h]) (by simp [resOf, h, h0]), hX, hM, ih c hkr]
          simp [goesTo, h, h0]
        · rw [row_one_leave (by simp [resOf, h]) (by simp [resOf, h, h0]), hX, hM]
          simp [goesTo, h, h0, resEnd, resOf]
      · rw [row_one_leave (by simp [resOf, h]) (by simp [resOf, h]), hX, hM]
        simp [goesTo, h, resEnd, resOf]
      · rw [row_one_leave (by simp [resOf, h]) (by simp [resOf, h]), hX, hM]
        simp [goesTo, h, resEnd, resOf]
    · rw [if_neg hl]
      obtain ⟨h1, h2⟩ := one_stay m W c o hko hl
      cases hd : doOp m W c o with
      | none => rw [row_one_trap (h1 hd)]; rfl
      | some c' =>
        obtain ⟨e1, e2, e3, e4⟩ := h2 c' hd
        rw [row_one_stay e1 e2, e3, e4, ih c' hkr]
end Ir
end Go.Proofs.YtlmnmncdoiealaaGreatDoor
