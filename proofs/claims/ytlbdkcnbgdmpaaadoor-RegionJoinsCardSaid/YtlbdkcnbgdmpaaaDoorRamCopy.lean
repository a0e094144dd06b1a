
/- The walks of slices.Clone over bytes, maps.Clone, and (*Ram).Copy. -/
import Derived.Test.YtlbdkcnbgdmpaaaDoorStored
import Derived.Deep.RegionHeld3
import Derived.Laws.Externs
import Derived.MapKept
import Derived.Lib.SliceRun
namespace Go.Proofs.YtlbdkcnbgdmpaaaDoor
open Go.RowKit Go.Deep
set_option linter.unusedVariables false

section
variable {P : Program} (w : World)
theorem run_equalIn_map_nil (d : Nat) (t k e : TypeId) (p : Option Nat) (h : P.underlying t = some (.map k e)) :
    (Op.equalIn (d + 1) t (.map p) (.map none)).run P w = .ok p.isNone w := by
  cases p <;> simp [Op.equalIn, run_underlying h]
theorem run_eql_map_none (t k e : TypeId) (p : Option Nat) (h : P.underlying t = some (.map k e)) :
    (binOp .eql t (.map p) (.map none)).run P w = .ok (.bool p.isNone) w := by
  simp only [binOp]
  simp [show Op.equal t (.map p) (.map none) = Op.equalIn (9999 + 1) t (.map p) (.map none) from rfl, run_equalIn_map_nil w 9999 t k e p h]
theorem run_typeAssert_map (t xT k e : TypeId) (v : Value) (h : P.underlying t = some (.map k e)) : (Instr.typeAssert (.iface t v) xT t false).run P w = .ok v w := by
  simp [Instr.typeAssert, run_underlying h, go_sem, Result.andThen]
theorem run_maps_clone {r : Nat} {es : Array MapEntry} {clock : Nat} (t : TypeId) (hb : w.heap[r]? = some (.map es clock)) :
    (Extern.MapsClone.clone #[.iface t (.map (some r))]).run P w = .ok (.iface t (.map (some w.heap.size))) (w.alloc (.map es clock)) := by
  have e : Extern.MapsClone.clone #[.iface t (.map (some r))] = (getObj r >>= fun o => match o with
      | .map entries clock => (newObj (.map entries clock) >>= fun n => pure (.iface t (.map (some n))))
      | _ => stuck "maps.clone: a map expected") := rfl
  rw [e]
  simp [MapKept.run_getObj_map hb, Result.andThen, go_sem]
end

/-- what Clone leaves: a row of its own with the same cells -/
def Cloned (n : Nat) (f : Nat → Value) (w : World) (e : Ending) (w' : World) : Prop :=
  ∃ g cap, e = .returned (.slice (some ⟨g, 0, none⟩) n cap) ∧ w.heap.size ≤ g ∧ n ≤ cap ∧ cap ≤ maxLen ∧ RowTo w' g 5 n f ∧ Keeps (fun _ => False) w w'

/-- a copy of a map, and no more -/
def MapCloned (es : Array MapEntry) (c : Nat) (w : World) (e : Ending) (w' : World) : Prop :=
  ∃ b, e = .returned (.map (some b)) ∧ w.heap.size ≤ b ∧ w'.heap[b]? = some (.map es c) ∧ Keeps (fun _ => False) w w'
/-- what Copy leaves: a Ram of its own that has what the other one has -/
def Copied (m : Nat → Int) (es eh : Array MapEntry) (cw ch : Nat) (w : World) (e : Ending) (w' : World) : Prop :=
  ∃ r pb pw ph cp, e = .returned (.pointer (some ⟨r, 0, none⟩)) ∧ RamAt w' r pb pw ph cp m ∧ w'.heap[pw]? = some (.map es cw) ∧ w'.heap[ph]? = some (.map eh ch) ∧
    (w.heap.size ≤ r ∧ w.heap.size ≤ pb ∧ w.heap.size ≤ pw ∧ w.heap.size ≤ ph) ∧ Keeps (fun _ => False) w w'
theorem lt_map {w : World} {b : Nat} {es : Array MapEntry} {c : Nat} (h : w.heap[b]? = some (.map es c)) : b < w.heap.size := (Array.getElem?_eq_some_iff.1 h).1
theorem copied_end {m : Nat → Int} {es eh : Array MapEntry} {cw ch : Nat} {w W : World} {g b1 b2 cap : Nat} (hm : ∀ i, i < 16384 → 0 ≤ m i ∧ m i < 256) (hg : RowTo W g 5 16384 (fun i => .int .u8 (m i))) (h1 : W.heap[b1]? = some (.map es cw)) (h2 : W.heap[b2]? = some (.map eh ch))
    (hc : 16384 ≤ cap ∧ cap ≤ maxLen) (hs : w.heap.size ≤ g ∧ w.heap.size ≤ b1 ∧ w.heap.size ≤ b2) (hne : g ≠ b1 ∧ g ≠ b2 ∧ b1 ≠ b2) (hk : Keeps (fun _ => False) w W) :
    Copied m es eh cw ch w (.returned (.pointer (some ⟨W.heap.size, 0, none⟩))) (W.alloc (.cells #[.slice (some ⟨g, 0, none⟩) 16384 cap, .map (some b1), .map (some b2)] 72)) := by
  have l1 := lt_map h1
  have l2 := lt_map h2
  have l3 := hg.lt
  have hsz := hk.size
  refine ⟨W.heap.size, g, b1, b2, cap, rfl, ⟨blk_alloc_new _ _, hg.alloc _, ⟨hc.1, by have := hc.2; unfold maxLen at this; omega⟩, hm, by omega⟩, (blk_alloc_lt _ _ _ l1).trans h1, (blk_alloc_lt _ _ _ l2).trans h2, by omega, hk.alloc _⟩

end Go.Proofs.YtlbdkcnbgdmpaaaDoor
