
/- A code's machine as it lies; the walk of NewMachine. -/
import Derived.Test.YtknhfobcejpmeaaDoorMachDefs
import Derived.Test.YtknhfobcejpmeaaDoorStDefs
import Derived.StillTailTactics
import Derived.Deep.RegionHeld3
import Derived.LoopTactic
import Derived.Deep.DeepCutAuto
import Derived.Deep.CutRange
import Derived.WalkLawsBesides
import Derived.BigQuiet
import Derived.Lib.Hide
namespace Go.Proofs.YtknhfobcejpmeaaDoor
open Go.RowKit Go.Deep
set_option linter.unusedVariables false
set_option linter.unusedSimpArgs false

/-- the cells of a machine -/
def machF (X : Nat → Int) (rp : Nat) (v : Value) (k : Nat) : Value := if k < 64 then .int .u32 (X k) else if k = 64 then .pointer (some ⟨rp, 0, none⟩) else v
/-- the cells of stores that wait -/
def wtL (l : List Ir.Wt) : List Value := l.flatMap (fun s => [.int .u32 s.addr, .int .i64 s.size, .int .u32 s.v])
theorem rowIs_lt {w : World} {b : Nat} {t : TypeId} {n : Nat} {f : Nat → Value} (h : w.rowIs b t n f) : b < w.heap.size := by
  obtain ⟨c, hb, _⟩ := h
  exact (Array.getElem?_eq_some_iff.1 hb).1
theorem rowIs_cell {w : World} {b : Nat} {t : TypeId} {n : Nat} {f : Nat → Value} (h : w.rowIs b t n f) (i : Nat) (hi : i < n) : w.cell? ⟨b, i, none⟩ = some (f i) := by
  obtain ⟨c, hb, _, hc⟩ := h
  unfold World.cell?
  rw [hb]
  exact hc i hi
theorem rowIs_frozen {w : World} {b : Nat} {t : TypeId} {n : Nat} {f : Nat → Value} (h : w.rowIs b t n f) (i : Nat) : w.frozen? ⟨b, i, none⟩ = false := by
  obtain ⟨c, hb, _, _⟩ := h
  exact frozen_of_block hb i
theorem keeps_rowIs {S : Nat → Prop} {w w' : World} {b : Nat} {t : TypeId} {n : Nat} {f : Nat → Value} (k : Keeps S w w') (h : w.rowIs b t n f) (hs : ¬ S b) : w'.rowIs b t n f := by
  obtain ⟨c, hb, h1, h2⟩ := h
  exact ⟨c, (k.block b (Array.getElem?_eq_some_iff.1 hb).1 hs).trans hb, h1, h2⟩
def mach0 (rp : Nat) : List Value := (List.range 64).map (fun _ => .int .u32 0) ++ [.pointer (some ⟨rp, 0, none⟩), .slice none 0 0]
/-- the machine that a state begins with -/
def Ir.mc0 (s : Cp.St) : Ir.Mc := ⟨fun k => if k < 32 then s.R k else if k = 32 then s.hi else if k = 33 then s.lo else 0, []⟩
end Go.Proofs.YtknhfobcejpmeaaDoor
