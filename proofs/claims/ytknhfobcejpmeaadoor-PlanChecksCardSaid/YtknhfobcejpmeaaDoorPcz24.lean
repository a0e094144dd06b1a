import Derived.Test.YtknhfobcejpmeaaDoorPcz23
import Derived.Test.YtknhfobcejpmeaaDoorPcz06
import Derived.Test.YtknhfobcejpmeaaDoorPcz07
import Derived.Test.YtknhfobcejpmeaaDoorPcz09
import Derived.Laws.Rows
import Derived.Laws.ResultCell
import Derived.Test.YtknhfobcejpmeaaDoorPcz12
import Derived.Test.YtknhfobcejpmeaaDoorProg
import Derived.WalkKit
import Derived.Test.YtknhfobcejpmeaaDoorMem
import Derived.LaidEql
import Derived.Stop.Asserts
import Derived.RowKitTokens

/- Eval -/
/- The walk of ir.Eval. -/
namespace Go.Proofs.YtknhfobcejpmeaaDoor
open Go.RowKit Go.Deep
set_option linter.unusedVariables false
set_option linter.unusedSimpArgs false

/-- an end's value -/
def endC (t : Bool) (a : Int) : Array Value := #[.bool t, .int .i64 a]
theorem Ir.mc0_ok (W : Int → Bool) {s : Cp.St} (h : Cp.Rng s) : Ir.McOk W (Ir.mc0 s) := by
  refine ⟨fun k hk => ?_, fun s hs => by cases hs⟩
  show 0 ≤ (if k < 32 then s.R k else if k = 32 then s.hi else if k = 33 then s.lo else 0) ∧ (if k < 32 then s.R k else if k = 32 then s.hi else if k = 33 then s.lo else 0) < 4294967296
  split
  · exact h.R k (by assumption)
  · split
    · exact h.hi
    · split
      · exact h.lo
      · omega
end Go.Proofs.YtknhfobcejpmeaaDoor

/- RunOf -/
/- The walk of the reference's RunOf. Printed by gen/runof.py. -/
namespace Go.Proofs.YtknhfobcejpmeaaDoor
open Go.RowKit Go.Deep
set_option linter.unusedVariables false
set_option linter.unusedSimpArgs false

/-- an end of the reference's in a block of its own -/
def rendC (t : Bool) (a : Int) (f : Bool) : Array Value := #[.bool t, .int .i64 a, .bool f]
/-- the ranges of registers -/
def Xok (X : Nat → Int) : Prop := ∀ k, k < 64 → 0 ≤ X k ∧ X k < 4294967296
theorem Xok.apply {X m : Nat → Int} {W : Int → Bool} {o : Ir.Op} {Y : Nat → Int} (hX : Xok X) (hY : Xok Y) (hm : ∀ j, j < 16384 → 0 ≤ m j ∧ m j < 256) (hi : Ir.OpIn o) : Xok (Ir.applyX Y o (Ir.resOf X m W o)) := by
  intro k hk
  unfold Ir.applyX
  split
  · unfold Ir.setX
    split
    · exact (Ir.res_rng hX hm hi).1
    · exact hY k hk
  · exact hY k hk
theorem apply0 {o : Ir.Op} {Y : Nat → Int} {r : Ir.RRes} : Ir.applyX Y o r 0 = Y 0 := by
  unfold Ir.applyX
  split
  · rename_i h
    unfold Ir.setX
    rw [if_neg (by omega)]
  · rfl
theorem encL_lt (o : Option Int) (h : ∀ a, o = some a → 0 ≤ a) : decide (Ir.encL o < 0) = o.isNone := by
  cases o with
  | none => rfl
  | some a => 
    have := h a rfl
    exact decide_eq_false (by show ¬ a < 0; omega)
/-- so far come to -/
def Ir.resUp (X m : Nat → Int) (W : Int → Bool) (l : List Ir.Op) (k : Nat) : List Ir.RRes := (l.take k).map (Ir.resOf X m W)
theorem Ir.resUp_step (X m : Nat → Int) (W : Int → Bool) (l : List Ir.Op) (k : Nat) (h : k < l.length) : Ir.resUp X m W l (k + 1) = Ir.resUp X m W l k ++ [Ir.resOf X m W (l.getD k Ir.nop)] := by
  unfold Ir.resUp
  rw [Ir.take_succ_getD l k h, List.map_append]
  rfl
theorem Ir.resUp_len (X m : Nat → Int) (W : Int → Bool) (l : List Ir.Op) (k : Nat) (h : k ≤ l.length) : (Ir.resUp X m W l k).length = k := by
  unfold Ir.resUp
  rw [List.length_map, List.length_take, Nat.min_eq_left h]
theorem Ir.resUp_get (X m : Nat → Int) (W : Int → Bool) (l : List Ir.Op) (n k : Nat) (h : k < n) (hn : n ≤ l.length) : (Ir.resUp X m W l n).getD k nores = Ir.resOf X m W (l.getD k Ir.nop) := by
  unfold Ir.resUp
  rw [List.getD_eq_getElem?_getD, List.getElem?_map, List.getElem?_take_of_lt h, List.getD_eq_getElem?_getD, List.getElem?_eq_getElem (by omega)]
  rfl
/-- an op that writes a register -/
theorem Ir.writes_pos {o : Ir.Op} (hi : Ir.OpIn o) (h : 0 < Ir.writes o) : (Ir.kn o.k ≠ 6 ∧ Ir.leaves (Ir.kn o.k) = false) ∧ Ir.writes o < 64 := by
  have hle := Ir.kn_le o.k
  have h0 := hi.k
  have hk : Ir.kn o.k = 1 ∨ Ir.kn o.k = 2 ∨ Ir.kn o.k = 5 ∨ 10 ≤ Ir.kn o.k := by
    rcases (show (Ir.kn o.k = 1 ∨ Ir.kn o.k = 2 ∨ Ir.kn o.k = 5 ∨ 10 ≤ Ir.kn o.k) ∨ (Ir.kn o.k = 3 ∨ Ir.kn o.k = 4 ∨ (6 ≤ Ir.kn o.k ∧ Ir.kn o.k ≤ 9)) by omega) with h1 | h1
    · exact h1
    · rw [Ir.writes_0 h1] at h
      omega
  refine ⟨⟨by omega, ?_⟩, by rw [Ir.writes_d hk]; exact (hi.d hk).2⟩
  unfold Ir.leaves
  exact decide_eq_false (by omega)
theorem Ir.writes_nneg {o : Ir.Op} (hi : Ir.OpIn o) : 0 ≤ Ir.writes o := by
  have hle := Ir.kn_le o.k
  have h0 := hi.k
  rcases (show (Ir.kn o.k = 1 ∨ Ir.kn o.k = 2 ∨ Ir.kn o.k = 5 ∨ 10 ≤ Ir.kn o.k) ∨ (Ir.kn o.k = 3 ∨ Ir.kn o.k = 4 ∨ (6 ≤ Ir.kn o.k ∧ Ir.kn o.k ≤ 9)) by omega) with h1 | h1
  · rw [Ir.writes_d h1]
    have := (hi.d h1).1
    omega
  · rw [Ir.writes_0 h1]
    omega
end Go.Proofs.YtknhfobcejpmeaaDoor

/- Each -/
/- Rows of one op each, of the call's own: the walks of the law's each, of the reference's EvalOf. Printed by gen/each.py. -/
namespace Go.Proofs.YtknhfobcejpmeaaDoor
open Go.RowKit Go.Deep
set_option linter.unusedVariables false
set_option linter.unusedSimpArgs false

def rowV (g : Nat) : Value := .slice (some ⟨g, 0, none⟩) 1 1
theorem Tryd.info_row : (Tryd.prog.info? 26).map (fun i => (i.zero, i.size, i.bytes)) = some (some (.slice none 0 0), 1, 24) := by kernel_rfl
/-- rows of one op each -/
def EachAt (w : World) (B : Nat) (v : Value) (l : List Ir.Op) : Prop :=
  ∃ gs : List Nat, gs.length = l.length ∧ w.ownsRow B 26 1 v l.length (gs.map rowV) ∧ ∀ j, j < l.length → B ≤ gs.getD j 0 ∧ w.heap[gs.getD j 0]? = some (.cells (opC (l.getD j Ir.nop)) 47 (0, 0))
theorem EachAt.quiet {w w' : World} {B : Nat} {v : Value} {l : List Ir.Op} (h : EachAt w B v l) (k : Keeps (fun _ => False) w w') : EachAt w' B v l := by
  obtain ⟨gs, h1, h2, h3⟩ := h
  exact ⟨gs, h1, owns_keep h2 k (fun _ _ h => h), fun j hj => ⟨(h3 j hj).1, (k.block _ (Array.getElem?_eq_some_iff.1 (h3 j hj).2).1 (fun h => h)).trans (h3 j hj).2⟩⟩
theorem EachAt.nil (w : World) (B : Nat) : EachAt w B (.slice none 0 0) [] := ⟨[], rfl, World.ownsRow_nil _ _ _ _, fun j hj => absurd hj (by simp)⟩
/-- one more -/
theorem EachAt.step {w2 w3 : World} {B g : Nat} {v v' : Value} {l : List Ir.Op} {o : Ir.Op} {gs : List Nat} (h1 : gs.length = l.length) (h2 : w2.ownsRow B 26 1 v l.length (gs.map rowV)) (h3 : ∀ j, j < l.length → B ≤ gs.getD j 0 ∧ w2.heap[gs.getD j 0]? = some (.cells (opC (l.getD j Ir.nop)) 47 (0, 0)))
    (hg : B ≤ g ∧ w2.heap[g]? = some (.cells (opC o) 47 (0, 0))) (hk : Keeps (fun k => v.ownBlock = some k) w2 w3) (hown : w3.ownsRow B 26 1 v' (l.length + 1) (gs.map rowV ++ [rowV g])) : EachAt w3 B v' (l ++ [o]) := by
  have hne : ∀ k c, w2.heap[k]? = some (.cells c 47 (0, 0)) → ¬ v.ownBlock = some k := fun k c hc e => by
    obtain ⟨_, ⟨h4, _⟩ | ⟨g2, cap, cur, h4, h5, h6, _⟩⟩ := h2
    · rw [h4] at e; cases e
    · rw [h4] at e
      injection e with e
      subst e
      rw [hc] at h6
      injection h6 with h6
      injection h6 with _ h7
      exact absurd h7 (by decide)
  refine ⟨gs ++ [g], by simp [h1], ?_, fun j hj => ?_⟩
  · rw [List.length_append, List.length_singleton, List.map_append]
    exact hown
  · rw [List.length_append, List.length_singleton] at hj
    by_cases e : j < l.length
    · have a1 : (gs ++ [g]).getD j 0 = gs.getD j 0 := by simp [List.getD_eq_getElem?_getD, List.getElem?_append_left (show j < gs.length by omega)]
      have a2 : (l ++ [o]).getD j Ir.nop = l.getD j Ir.nop := by simp [List.getD_eq_getElem?_getD, List.getElem?_append_left e]
      rw [a1, a2]
      have := h3 j e
      exact ⟨this.1, (hk.block _ (Array.getElem?_eq_some_iff.1 this.2).1 (hne _ _ this.2)).trans this.2⟩
    · obtain rfl : j = l.length := by omega
      have a1 : (gs ++ [g]).getD l.length 0 = g := by rw [← h1]; simp [List.getD_eq_getElem?_getD]
      have a2 : (l ++ [o]).getD l.length Ir.nop = o := by simp [List.getD_eq_getElem?_getD]
      rw [a1, a2]
      exact ⟨hg.1, (hk.block _ (Array.getElem?_eq_some_iff.1 hg.2).1 (hne _ _ hg.2)).trans hg.2⟩
theorem EachAt.rows {w : World} {B : Nat} {v : Value} {l : List Ir.Op} (h : EachAt w B v l) : ∃ A cap, v = .slice A l.length cap ∧ cap ≤ 9223372036854775807 ∧ RowsAt w A l.length cap (l.map fun o => [o]) := by
  obtain ⟨gs, h1, h2, h3⟩ := h
  obtain ⟨A, cap, rfl⟩ := owns_slice h2
  refine ⟨A, cap, rfl, owns_cap h2, ?_⟩
  obtain ⟨hlen, ⟨h4, h5⟩ | ⟨g, cap', cur, h4, h5, h6, h7, h8, h9, h10⟩⟩ := h2
  · injection h4 with e1 e2 e3
    exact ⟨by simp, by omega, .inl e3⟩
  · injection h4 with e1 e2 e3
    subst e1 e3
    refine ⟨by simp, h7, .inr ⟨g, 0, rfl, (Array.getElem?_eq_some_iff.1 h6).1, fun i hi => ?_⟩⟩
    have hr : (l.map fun o => [o]).getD i [] = [l.getD i Ir.nop] := by
      rw [List.getD_eq_getElem?_getD, List.getElem?_map, List.getElem?_eq_getElem hi, List.getD_eq_getElem?_getD, List.getElem?_eq_getElem hi]
      rfl
    rw [hr]
    have hc : w.cell? ⟨g, 0 + i, none⟩ = some (rowV (gs.getD i 0)) := by
      have e : (gs.map rowV)[i]? = some (rowV (gs.getD i 0)) := by
        rw [List.getElem?_map, List.getElem?_eq_getElem (by omega), List.getD_eq_getElem?_getD, List.getElem?_eq_getElem (by omega)]
        rfl
      rw [← h10, List.getElem?_take_of_lt (by omega)] at e
      unfold World.cell?
      rw [h6]
      simp only [Nat.zero_add]
      simpa using e
    refine ⟨some ⟨gs.getD i 0, 0, none⟩, 1, hc, ⟨rfl, Nat.le_refl _, .inr ⟨gs.getD i 0, 0, rfl, (Array.getElem?_eq_some_iff.1 (h3 i hi).2).1, fun j hj => ?_⟩⟩, by decide⟩
    have hj : j < 1 := hj
    obtain rfl : j = 0 := by omega
    refine OpLies.of_cells fun q hq v hv => ?_
    unfold World.cell?
    rw [(h3 i hi).2]
    simpa using hv
end Go.Proofs.YtknhfobcejpmeaaDoor

/- EvalOf -/
/- The walk of the reference's EvalOf. Printed by gen/each.py. -/
namespace Go.Proofs.YtknhfobcejpmeaaDoor
open Go.RowKit Go.Deep
set_option linter.unusedVariables false
set_option linter.unusedSimpArgs false

end Go.Proofs.YtknhfobcejpmeaaDoor

/- As -/
/- The contracts of errors.As at '**api.Fault' (turned from the worked example 'toyas'). -/
namespace Go.Proofs.YtknhfobcejpmeaaDoor
open Go.RowKit Go.Extern.Stop Go.Stop Go.Extern
set_option linter.unusedVariables false

/-! ### CLOSED FACTS ON THE MODEL's ENTRIES FOR internal/reflectlite, at this program's types: 25: *p.E · 27: **p.E · 23: error · 45: reflectlite's rtype · 1: how many package-level variables the dump has -/
theorem Tryd.valueOf27 (t : Addr) (w : World) : (ReflectliteValue.unpack (.iface 131 (.pointer (some t)))).run Tryd.prog w
    = .ok (.agg #[.pointer (some ⟨12, 131, none⟩), .pointer (some ⟨w.heap.size, 0, none⟩), .int .u64 150]) (w.alloc (.cells #[.pointer (some t)] 131)) := by kernel_rfl
theorem Tryd.type27 (a : Addr) (w : World) : (ReflectliteValue.methodAny (ReflectliteValue.valueError "reflectlite.Value.Type" 0) (fun t _ _ _ => ReflectliteType.toType t) #[.agg #[.pointer (some ⟨12, 131, none⟩), .pointer (some a), .int .u64 150]]).run Tryd.prog w
    = .ok (.iface 186 (.agg #[.pointer (some ⟨12, 131, none⟩)])) w := by kernel_rfl
theorem Tryd.methodKind (h : Value) (w : World) : (Go.method 346 186 (.agg #[h]) "Kind").run Tryd.prog w = .ok (163, h) w := by kernel_rfl
theorem Tryd.kind27 (w : World) : ((ReflectliteType.abiMethod fun t => (fun a : Nat => Value.int IntKind.u8 (a : Int)) <$> Rtype.kind t) #[.pointer (some ⟨12, 131, none⟩)]).run Tryd.prog w = .ok (.int .u8 22) w := by kernel_rfl
theorem Tryd.kind25 (w : World) : ((ReflectliteType.abiMethod fun t => (fun a : Nat => Value.int IntKind.u8 (a : Int)) <$> Rtype.kind t) #[.pointer (some ⟨12, 85, none⟩)]).run Tryd.prog w = .ok (.int .u8 22) w := by kernel_rfl

/-! ### THE ENTRIES THAT READ OR WRITE MEMORY: laws with a premise on the cell (after Derived/Lib/ReflectliteSlice.lean's manner: each unfolding a lemma of its own, by rfl) -/
theorem rlm (z : Sem Value) (f : TypeId → Addr → Nat → Nat → Sem Value) (v : Value) :
    ReflectliteValue.method z f #[v] = (do match ← ReflectliteValue.parts v with | none => z | some (t, a, fl) => f t a fl (fl % 32)) := rfl
theorem Tryd.parts27 (a : Addr) (w : World) : (ReflectliteValue.parts (.agg #[.pointer (some ⟨12, 131, none⟩), .pointer (some a), .int .u64 150])).run Tryd.prog w = .ok (some (131, a, 150)) w := by kernel_rfl
/-- (Value).IsNil at the Value of a **p.E that is not nil. -/
theorem Tryd.isNil27 (a p : Addr) (W : World) (ha : W.cell? a = some (.pointer (some p))) :
    (ReflectliteValue.method (ReflectliteValue.valueError "reflectlite.Value.IsNil" 0) ReflectliteValue.isNil #[.agg #[.pointer (some ⟨12, 131, none⟩), .pointer (some a), .int .u64 150]]).run Tryd.prog W = .ok (.bool false) W := by
  rw [rlm]
  simp only [Sem.run_bind, Tryd.parts27, Result.andThen]
  simp [ReflectliteValue.isNil, loadVar, isAgg, underlying, Tryd.underlying131, ha, Result.andThen]

theorem Tryd.methodElem (h : Value) (w : World) : (Go.method 346 186 (.agg #[h]) "Elem").run Tryd.prog w = .ok (174, .agg #[h]) w := by kernel_rfl
theorem Tryd.methodImplements (h : Value) (w : World) : (Go.method 346 186 (.agg #[h]) "Implements").run Tryd.prog w = .ok (175, .agg #[h]) w := by kernel_rfl
theorem Tryd.methodAssignableTo (h : Value) (w : World) : (Go.method 346 186 (.agg #[h]) "AssignableTo").run Tryd.prog w = .ok (172, .agg #[h]) w := by kernel_rfl
theorem Tryd.elem27 (w : World) : (ReflectliteType.method ReflectliteType.elem #[.agg #[.pointer (some ⟨12, 131, none⟩)]]).run Tryd.prog w = .ok (.iface 186 (.agg #[.pointer (some ⟨12, 85, none⟩)])) w := by kernel_rfl
theorem Tryd.implements25 (w : World) : (ReflectliteType.relation "Implements" ReflectliteType.implements_ #[.agg #[.pointer (some ⟨12, 85, none⟩)], .iface 186 (.agg #[.pointer (some ⟨12, 32, none⟩)])]).run Tryd.prog w = .ok (.bool true) w := by kernel_rfl
theorem Tryd.typeOf25 (v : Value) (w : World) : (ReflectliteType.typeOf #[.iface 85 v]).run Tryd.prog w = .ok (.iface 186 (.agg #[.pointer (some ⟨12, 85, none⟩)])) w := by kernel_rfl
theorem Tryd.assignable25 (w : World) : (ReflectliteType.relation "AssignableTo" ReflectliteType.assignableTo #[.agg #[.pointer (some ⟨12, 85, none⟩)], .iface 186 (.agg #[.pointer (some ⟨12, 85, none⟩)])]).run Tryd.prog w = .ok (.bool true) w := by kernel_rfl
theorem Tryd.valueOf25 (e : Addr) (w : World) : (ReflectliteValue.unpack (.iface 85 (.pointer (some e)))).run Tryd.prog w
    = .ok (.agg #[.pointer (some ⟨12, 85, none⟩), .pointer (some ⟨w.heap.size, 0, none⟩), .int .u64 150]) (w.alloc (.cells #[.pointer (some e)] 85)) := by kernel_rfl

theorem Tryd.elemOf27 (w : World) : (Rtype.elem? 131).run Tryd.prog w = .ok (some 85) w := by kernel_rfl
theorem Tryd.mk25 (p : Addr) (w : World) : (ReflectliteValue.mk 85 p ReflectliteValue.flagAddr).run Tryd.prog w = .ok (.agg #[.pointer (some ⟨12, 85, none⟩), .pointer (some p), .int .u64 406]) w := by kernel_rfl
/-- (Value).Elem at the Value of a **p.E that is not nil: the Value of the *p.E variable that it points to, addressable. -/
theorem Tryd.elemV27 (a p : Addr) (W : World) (ha : W.cell? a = some (.pointer (some p))) :
    (ReflectliteValue.method (ReflectliteValue.valueError "reflectlite.Value.Elem" 0) ReflectliteValue.elem #[.agg #[.pointer (some ⟨12, 131, none⟩), .pointer (some a), .int .u64 150]]).run Tryd.prog W
      = .ok (.agg #[.pointer (some ⟨12, 85, none⟩), .pointer (some p), .int .u64 406]) W := by
  rw [rlm]
  simp only [Sem.run_bind, Tryd.parts27, Result.andThen]
  simp [ReflectliteValue.elem, loadVar, isAgg, underlying, Tryd.underlying131, ha, Result.andThen, Tryd.elemOf27, Tryd.mk25]
theorem rls (v x : Value) : ReflectliteValue.set #[v, x] = (do
    let (some (dst, a, fl), some (src, b, _)) := (← ReflectliteValue.parts v, ← ReflectliteValue.parts x)
      | unsupported (.noEntry "extern/(internal/reflectlite.Value).Set.zeroValue")
    if fl / ReflectliteValue.flagAddr % 2 == 0 then unsupported (.noEntry "extern/(internal/reflectlite.Value).Set.unaddressable")
    let val ← loadVar src b
    if ← Rtype.directlyAssignable dst src then storeVar dst a val
    else if ← Rtype.implements dst src then
      if (← Rtype.kind src) == 20 then
        match val with
        | .nilIface => unsupported (.noEntry "extern/reflectlite: a nil value of one interface type handed on as a value of another")
        | _ => storeVar dst a val
      else storeVar dst a (.iface src val)
    else panicString ("reflectlite.Set: value of type " ++ (← Rtype.spelt src) ++ " is not assignable to type " ++ (← Rtype.spelt dst))
    pure (.tuple #[])) := rfl
theorem Tryd.parts25a (a : Addr) (w : World) : (ReflectliteValue.parts (.agg #[.pointer (some ⟨12, 85, none⟩), .pointer (some a), .int .u64 406])).run Tryd.prog w = .ok (some (85, a, 406)) w := by kernel_rfl
theorem Tryd.parts25 (a : Addr) (w : World) : (ReflectliteValue.parts (.agg #[.pointer (some ⟨12, 85, none⟩), .pointer (some a), .int .u64 150])).run Tryd.prog w = .ok (some (85, a, 150)) w := by kernel_rfl
theorem Tryd.direct25 (w : World) : (Rtype.directlyAssignable 85 85).run Tryd.prog w = .ok true w := by kernel_rfl
theorem Tryd.size25 (w : World) : (sizeOf 85).run Tryd.prog w = .ok 1 w := by kernel_rfl
/-- (Value).Set: the *p.E variable at 'ta' gets what the Value's own variable 'b' holds. -/
theorem Tryd.set25 (ta b e : Addr) (old : Value) (W : World) (hb : W.cell? b = some (.pointer (some e))) (ht : W.cell? ta = some old) (hf : W.frozen? ta = false) :
    (ReflectliteValue.set #[.agg #[.pointer (some ⟨12, 85, none⟩), .pointer (some ta), .int .u64 406], .agg #[.pointer (some ⟨12, 85, none⟩), .pointer (some b), .int .u64 150]]).run Tryd.prog W
      = .ok (.tuple #[]) (W.setCell ta (.pointer (some e))) := by
  rw [rls]
  simp only [Sem.run_bind, Tryd.parts25a, Tryd.parts25, Result.andThen]
  simp [ReflectliteValue.flagAddr, loadVar, isAgg, underlying, Tryd.underlying85, hb, Result.andThen, Tryd.direct25, storeVar, Value.cells, storeCells, Addr.add]
  rw [run_store Tryd.prog W ta _ _ (by rfl)]
  simp [ht, hf]

set_option maxHeartbeats 4000000 in
theorem as_hit (e t : Addr) (old : Value) (w : World) (hg : w.cell? ⟨10, 0, none⟩ = some (.iface 186 (.agg #[.pointer (some ⟨12, 32, none⟩)]))) (ht0 : w.cell? t = some old) (hf0 : w.frozen? t = false) :
    Calls Tryd.prog 69 #[.iface 85 (.pointer (some e)), .iface 131 (.pointer (some t))] w fun ev w' => ev = .returned (.bool true) ∧ w' = ((((w.alloc (.cells #[.pointer (some t)] 131)).alloc (.cells #[.pointer (some ⟨12, 131, none⟩), .pointer (some ⟨w.heap.size, 0, none⟩), .int .u64 150] 158)).alloc (.cells #[.pointer (some ⟨12, 131, none⟩), .pointer (some ⟨w.heap.size, 0, none⟩), .int .u64 150] 158)).alloc (.cells #[.pointer (some e)] 85)).setCell t (.pointer (some e)) := by
  have h6 := @run_callFunc_extern Tryd.prog 99 _ (fun args => ReflectliteValue.unpack (args.getD 0 (.tuple #[]))) Tryd.func99 (by kernel_rfl) (by kernel_rfl) (by kernel_rfl) (by kernel_rfl)
  have h7 := @run_callFunc_extern Tryd.prog 100 _ (ReflectliteValue.methodAny (ReflectliteValue.valueError "reflectlite.Value.Type" 0) (fun t _ _ _ => ReflectliteType.toType t)) Tryd.func100 (by kernel_rfl) (by kernel_rfl) (by kernel_rfl) (by kernel_rfl)
  have h8 := @run_callFunc_extern Tryd.prog 101 _ (ReflectliteValue.method (ReflectliteValue.valueError "reflectlite.Value.IsNil" 0) ReflectliteValue.isNil) Tryd.func101 (by kernel_rfl) (by kernel_rfl) (by kernel_rfl) (by kernel_rfl)
  have h27 := @run_callFunc_extern Tryd.prog 163 _ (ReflectliteType.abiMethod fun t => do pure (.int .u8 (← Rtype.kind t))) Tryd.func163 (by kernel_rfl) (by kernel_rfl) (by kernel_rfl) (by kernel_rfl)
  have h37 := @run_callFunc_extern Tryd.prog 174 _ (ReflectliteType.method ReflectliteType.elem) Tryd.func174 (by kernel_rfl) (by kernel_rfl) (by kernel_rfl) (by kernel_rfl)
  have h38 := @run_callFunc_extern Tryd.prog 175 _ (ReflectliteType.relation "Implements" ReflectliteType.implements_) Tryd.func175 (by kernel_rfl) (by kernel_rfl) (by kernel_rfl) (by kernel_rfl)
  have h10 := @run_callFunc_extern Tryd.prog 103 _ ReflectliteType.typeOf Tryd.func103 (by kernel_rfl) (by kernel_rfl) (by kernel_rfl) (by kernel_rfl)
  have h35 := @run_callFunc_extern Tryd.prog 172 _ (ReflectliteType.relation "AssignableTo" ReflectliteType.assignableTo) Tryd.func172 (by kernel_rfl) (by kernel_rfl) (by kernel_rfl) (by kernel_rfl)
  have h11 := @run_callFunc_extern Tryd.prog 130 _ (ReflectliteValue.method (ReflectliteValue.valueError "reflectlite.Value.Elem" 0) ReflectliteValue.elem) Tryd.func130 (by kernel_rfl) (by kernel_rfl) (by kernel_rfl) (by kernel_rfl)
  have h12 := @run_callFunc_extern Tryd.prog 131 _ ReflectliteValue.set Tryd.func131 (by kernel_rfl) (by kernel_rfl) (by kernel_rfl) (by kernel_rfl)
  have tO := Tryd.typeOf25
  have mA := Tryd.methodAssignableTo
  have a25 := Tryd.assignable25
  have v25 := Tryd.valueOf25
  have f6 := Tryd.valueOf27
  have f7 := Tryd.type27
  have mK := Tryd.methodKind
  have mE := Tryd.methodElem
  have mI := Tryd.methodImplements
  have k27 := Tryd.kind27
  have k25 := Tryd.kind25
  have e27 := Tryd.elem27
  have i25 := Tryd.implements25
  have n8 := Tryd.isNil27 ⟨w.heap.size, 0, none⟩ t ((w.alloc (.cells #[.pointer (some t)] 131)).alloc (.cells #[.pointer (some ⟨12, 131, none⟩), .pointer (some ⟨w.heap.size, 0, none⟩), .int .u64 150] 158)) (by simp)
  have hlt : 10 < w.heap.size := World.block_lt_of_cell? w ⟨10, 0, none⟩ hg
  have hg2 : ((w.alloc (.cells #[.pointer (some t)] 131)).alloc (.cells #[.pointer (some ⟨12, 131, none⟩), .pointer (some ⟨w.heap.size, 0, none⟩), .int .u64 150] 158)).cell? ⟨10, 0, none⟩ = some (.iface 186 (.agg #[.pointer (some ⟨12, 32, none⟩)])) := by
    rw [World.cell?_alloc_lt _ _ ⟨10, 0, none⟩ (by simp; omega), World.cell?_alloc_lt _ _ ⟨10, 0, none⟩ hlt]; exact hg
  have htl : t.block < w.heap.size := by
    rcases Nat.lt_or_ge t.block w.heap.size with h | h
    · exact h
    · simp [World.cell?, Array.getElem?_eq_none h] at ht0
  have el := Tryd.elemV27 ⟨w.heap.size, 0, none⟩ t (((w.alloc (.cells #[.pointer (some t)] 131)).alloc (.cells #[.pointer (some ⟨12, 131, none⟩), .pointer (some ⟨w.heap.size, 0, none⟩), .int .u64 150] 158)).alloc (.cells #[.pointer (some ⟨12, 131, none⟩), .pointer (some ⟨w.heap.size, 0, none⟩), .int .u64 150] 158)) (by rw [World.cell?_alloc_lt _ _ ⟨w.heap.size, 0, none⟩ (by simp; omega)]; simp)
  have st := Tryd.set25 t ⟨w.heap.size + 1 + 1 + 1, 0, none⟩ e old ((((w.alloc (.cells #[.pointer (some t)] 131)).alloc (.cells #[.pointer (some ⟨12, 131, none⟩), .pointer (some ⟨w.heap.size, 0, none⟩), .int .u64 150] 158)).alloc (.cells #[.pointer (some ⟨12, 131, none⟩), .pointer (some ⟨w.heap.size, 0, none⟩), .int .u64 150] 158)).alloc (.cells #[.pointer (some e)] 85))
    (by rw [World.cell?_alloc_at _ _ _ _ (by simp)]; rfl)
    (by rw [World.cell?_alloc_lt _ _ t (by simp; omega), World.cell?_alloc_lt _ _ t (by simp; omega), World.cell?_alloc_lt _ _ t (by simp; omega), World.cell?_alloc_lt _ _ t htl]; exact ht0)
    (by rw [World.frozen?_alloc_old _ _ t (by simp; omega), World.frozen?_alloc_old _ _ t (by simp; omega), World.frozen?_alloc_old _ _ t (by simp; omega), World.frozen?_alloc_old _ _ t (Nat.ne_of_lt htl)]; exact hf0)
  go_enter Tryd.func69, Tryd.ntmps69
  go_wp2
  refine wp_loop_rounds 1 ?_
  rw [rounds_succ]
  go_wp2
  go_ret
  exact ⟨rfl, rfl⟩
end Go.Proofs.YtknhfobcejpmeaaDoor
