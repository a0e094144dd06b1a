import Derived.Test.YtknhfobcejpmeaaGreatDoorHrz11
import Derived.Test.YtknhfobcejpmeaaGreatDoorProg
import Derived.WalkKit
import Derived.Test.YtknhfobcejpmeaaGreatDoorMem
import Derived.LaidEql
import Derived.Stop.Asserts
import Derived.RowKitTokens
import Derived.Test.YtknhfobcejpmeaaGreatDoorErr

/- EvalOf -/
/- The walk of the reference's EvalOf. Printed by gen/each.py. -/
namespace Go.Proofs.YtknhfobcejpmeaaGreatDoor
open Go.RowKit Go.Deep
set_option linter.unusedVariables false
set_option linter.unusedSimpArgs false

theorem RunIs.form {w w' : World} {sb q tb hb : Nat} {s : Cp.St} {wt ht : Nat → Bool} {many : Int} {r : Ir.REnd} {e : Ending} (h : RunIs w sb q tb hb s wt ht many r e w') : ∃ t a f, e = .returned (.agg (rendC t a f)) := by
  cases r with
  | trap a => exact ⟨_, _, _, h.1⟩
  | leave pc X m => exact ⟨_, _, _, h.1⟩
  | fell => exact ⟨_, _, _, h.1⟩
theorem RunIs.kept {w w' : World} {sb q tb hb : Nat} {s : Cp.St} {wt ht : Nat → Bool} {many : Int} {r : Ir.REnd} {e : Ending} (h : RunIs w sb q tb hb s wt ht many r e w') : Keeps (fun b => b = sb ∨ b = q) w w' := by
  cases r with
  | trap a => exact h.2.mono (fun _ _ h => h.elim)
  | leave pc X m => exact h.2.2.2
  | fell => exact h.2.mono (fun _ _ h => h.elim)
theorem RunIs.keepEnd {w0 w w' : World} {sb q tb hb eb : Nat} {s : Cp.St} {wt ht : Nat → Bool} {many : Int} {r : Ir.REnd} {e : Ending} {t f : Bool} {a : Int} (h : RunIs w sb q tb hb s wt ht many r e w') (E : REndBox w eb t a f) (he : w0.heap.size = eb) (hs : sb < w0.heap.size ∧ q < w0.heap.size ∧ tb < w0.heap.size ∧ hb < w0.heap.size) : REndBox w' eb t a f :=
  E.keep h.kept (fun e => by rcases e with e | e <;> omega)
/-- the same, from an earlier world -/
theorem RunIs.from {w0 w w' : World} {sb q tb hb : Nat} {s : Cp.St} {wt ht : Nat → Bool} {many : Int} {r : Ir.REnd} {e : Ending} (h : RunIs w sb q tb hb s wt ht many r e w') (k : Keeps (fun _ => False) w0 w) : RunIs w0 sb q tb hb s wt ht many r e w' := by
  cases r with
  | trap a => exact ⟨h.1, k.trans h.2 (fun _ _ h => h)⟩
  | leave pc X m => exact ⟨h.1, h.2.1, h.2.2.1, (k.mono (T := fun b => b = sb ∨ b = q) (fun _ _ h => h.elim)).trans h.2.2.2 (fun _ _ h => h)⟩
  | fell => exact ⟨h.1, k.trans h.2 (fun _ _ h => h)⟩
/-- the same, behind what turns a new block alone -/
theorem RunIs.behind {w w' w'' : World} {sb q tb hb eb : Nat} {s : Cp.St} {wt ht : Nat → Bool} {many : Int} {r : Ir.REnd} {e : Ending} (h : RunIs w sb q tb hb s wt ht many r e w') (k : Keeps (· = eb) w' w'') (hs : sb ≠ eb ∧ q ≠ eb ∧ tb ≠ eb ∧ hb ≠ eb) (he : w.heap.size = eb) (hw : ∀ wb' m, RefAt w' q wb' tb hb m wt ht → wb' ≠ eb) : RunIs w sb q tb hb s wt ht many r e w'' := by
  cases r with
  | trap a => exact ⟨h.1, h.2.trans k (fun b hb e => by have e : b = eb := e; omega)⟩
  | leave pc X m =>
    obtain ⟨h1, h2, ⟨wb', h3⟩, h4⟩ := h
    exact ⟨h1, StAt.keep h2 k (fun e => hs.1 e), ⟨wb', h3.keep k ⟨fun e => hs.2.1 e, fun e => hw _ _ h3 e, fun e => hs.2.2.1 e, fun e => hs.2.2.2 e⟩⟩, h4.trans k (fun b hb e => by have e : b = eb := e; omega)⟩
  | fell => exact ⟨h.1, h.2.trans k (fun b hb e => by have e : b = eb := e; omega)⟩
end Go.Proofs.YtknhfobcejpmeaaGreatDoor

/- As -/
/- The contracts of errors.As at '**api.Fault' (turned from the worked example 'toyas'). -/
namespace Go.Proofs.YtknhfobcejpmeaaGreatDoor
open Go.RowKit Go.Extern.Stop Go.Stop Go.Extern
set_option linter.unusedVariables false

/-! ### CLOSED FACTS ON THE MODEL's ENTRIES FOR internal/reflectlite, at this program's types: 25: *p.E · 27: **p.E · 23: error · 45: reflectlite's rtype · 1: how many package-level variables the dump has -/
theorem Tryz.valueOf27 (t : Addr) (w : World) : (ReflectliteValue.unpack (.iface 167 (.pointer (some t)))).run Tryz.prog w
    = .ok (.agg #[.pointer (some ⟨12, 167, none⟩), .pointer (some ⟨w.heap.size, 0, none⟩), .int .u64 150]) (w.alloc (.cells #[.pointer (some t)] 167)) := by kernel_rfl
theorem Tryz.type27 (a : Addr) (w : World) : (ReflectliteValue.methodAny (ReflectliteValue.valueError "reflectlite.Value.Type" 0) (fun t _ _ _ => ReflectliteType.toType t) #[.agg #[.pointer (some ⟨12, 167, none⟩), .pointer (some a), .int .u64 150]]).run Tryz.prog w
    = .ok (.iface 245 (.agg #[.pointer (some ⟨12, 167, none⟩)])) w := by kernel_rfl
theorem Tryz.methodKind (h : Value) (w : World) : (Go.method 408 245 (.agg #[h]) "Kind").run Tryz.prog w = .ok (205, h) w := by kernel_rfl
theorem Tryz.kind27 (w : World) : ((ReflectliteType.abiMethod fun t => (fun a : Nat => Value.int IntKind.u8 (a : Int)) <$> Rtype.kind t) #[.pointer (some ⟨12, 167, none⟩)]).run Tryz.prog w = .ok (.int .u8 22) w := by kernel_rfl
theorem Tryz.kind25 (w : World) : ((ReflectliteType.abiMethod fun t => (fun a : Nat => Value.int IntKind.u8 (a : Int)) <$> Rtype.kind t) #[.pointer (some ⟨12, 157, none⟩)]).run Tryz.prog w = .ok (.int .u8 22) w := by kernel_rfl

/-! ### THE ENTRIES THAT READ OR WRITE MEMORY: laws with a premise on the cell (after Derived/Lib/ReflectliteSlice.lean's manner: each unfolding a lemma of its own, by rfl) -/
theorem rlm (z : Sem Value) (f : TypeId → Addr → Nat → Nat → Sem Value) (v : Value) :
    ReflectliteValue.method z f #[v] = (do match ← ReflectliteValue.parts v with | none => z | some (t, a, fl) => f t a fl (fl % 32)) := rfl
theorem Tryz.parts27 (a : Addr) (w : World) : (ReflectliteValue.parts (.agg #[.pointer (some ⟨12, 167, none⟩), .pointer (some a), .int .u64 150])).run Tryz.prog w = .ok (some (167, a, 150)) w := by kernel_rfl
/-- (Value).IsNil at the Value of a **p.E that is not nil. -/
theorem Tryz.isNil27 (a p : Addr) (W : World) (ha : W.cell? a = some (.pointer (some p))) :
    (ReflectliteValue.method (ReflectliteValue.valueError "reflectlite.Value.IsNil" 0) ReflectliteValue.isNil #[.agg #[.pointer (some ⟨12, 167, none⟩), .pointer (some a), .int .u64 150]]).run Tryz.prog W = .ok (.bool false) W := by
  rw [rlm]
  simp only [Sem.run_bind, Tryz.parts27, Result.andThen]
  simp [ReflectliteValue.isNil, loadVar, isAgg, underlying, Tryz.underlying167, ha, Result.andThen]

theorem Tryz.methodElem (h : Value) (w : World) : (Go.method 408 245 (.agg #[h]) "Elem").run Tryz.prog w = .ok (216, .agg #[h]) w := by kernel_rfl
theorem Tryz.methodImplements (h : Value) (w : World) : (Go.method 408 245 (.agg #[h]) "Implements").run Tryz.prog w = .ok (217, .agg #[h]) w := by kernel_rfl
theorem Tryz.methodAssignableTo (h : Value) (w : World) : (Go.method 408 245 (.agg #[h]) "AssignableTo").run Tryz.prog w = .ok (214, .agg #[h]) w := by kernel_rfl
theorem Tryz.elem27 (w : World) : (ReflectliteType.method ReflectliteType.elem #[.agg #[.pointer (some ⟨12, 167, none⟩)]]).run Tryz.prog w = .ok (.iface 245 (.agg #[.pointer (some ⟨12, 157, none⟩)])) w := by kernel_rfl
theorem Tryz.implements25 (w : World) : (ReflectliteType.relation "Implements" ReflectliteType.implements_ #[.agg #[.pointer (some ⟨12, 157, none⟩)], .iface 245 (.agg #[.pointer (some ⟨12, 37, none⟩)])]).run Tryz.prog w = .ok (.bool true) w := by kernel_rfl
theorem Tryz.typeOf25 (v : Value) (w : World) : (ReflectliteType.typeOf #[.iface 157 v]).run Tryz.prog w = .ok (.iface 245 (.agg #[.pointer (some ⟨12, 157, none⟩)])) w := by kernel_rfl
theorem Tryz.assignable25 (w : World) : (ReflectliteType.relation "AssignableTo" ReflectliteType.assignableTo #[.agg #[.pointer (some ⟨12, 157, none⟩)], .iface 245 (.agg #[.pointer (some ⟨12, 157, none⟩)])]).run Tryz.prog w = .ok (.bool true) w := by kernel_rfl
theorem Tryz.valueOf25 (e : Addr) (w : World) : (ReflectliteValue.unpack (.iface 157 (.pointer (some e)))).run Tryz.prog w
    = .ok (.agg #[.pointer (some ⟨12, 157, none⟩), .pointer (some ⟨w.heap.size, 0, none⟩), .int .u64 150]) (w.alloc (.cells #[.pointer (some e)] 157)) := by kernel_rfl

theorem Tryz.elemOf27 (w : World) : (Rtype.elem? 167).run Tryz.prog w = .ok (some 157) w := by kernel_rfl
theorem Tryz.mk25 (p : Addr) (w : World) : (ReflectliteValue.mk 157 p ReflectliteValue.flagAddr).run Tryz.prog w = .ok (.agg #[.pointer (some ⟨12, 157, none⟩), .pointer (some p), .int .u64 406]) w := by kernel_rfl
/-- (Value).Elem at the Value of a **p.E that is not nil: the Value of the *p.E variable that it points to, addressable. -/
theorem Tryz.elemV27 (a p : Addr) (W : World) (ha : W.cell? a = some (.pointer (some p))) :
    (ReflectliteValue.method (ReflectliteValue.valueError "reflectlite.Value.Elem" 0) ReflectliteValue.elem #[.agg #[.pointer (some ⟨12, 167, none⟩), .pointer (some a), .int .u64 150]]).run Tryz.prog W
      = .ok (.agg #[.pointer (some ⟨12, 157, none⟩), .pointer (some p), .int .u64 406]) W := by
  rw [rlm]
  simp only [Sem.run_bind, Tryz.parts27, Result.andThen]
  simp [ReflectliteValue.elem, loadVar, isAgg, underlying, Tryz.underlying167, ha, Result.andThen, Tryz.elemOf27, Tryz.mk25]
theorem rls (v x : Value) : ReflectliteValue.set #[v, x] = (do
    let (some (dst, a, fl), some (src, b, _)) := (← ReflectliteValue.parts v, ← ReflectliteValue.parts x)
      | unsupported (.noEntry "extern/(internal/reflectlite.Value).Set.zeroValue")
    if fl / ReflectliteValue.flagAddr % 2 == 0 then unsupported (.noEntry "extern/(internal/reflectlite.Value).Set.unaddressable")
    let val ← loadVar src b
    if ← Rtype.directlyAssignable dst src then storeVar dst a val
    else if ← Rtype.implements dst src then
      if (← Rtype.kind src) == 20 then
        match val with
        | .nilIface => unsupported (.noEntry "extern/reflectlite: a nil value of one interface type handed on as a value of another")
        | _ => storeVar dst a val
      else storeVar dst a (.iface src val)
    else panicString ("reflectlite.Set: value of type " ++ (← Rtype.spelt src) ++ " is not assignable to type " ++ (← Rtype.spelt dst))
    pure (.tuple #[])) := rfl
theorem Tryz.parts25a (a : Addr) (w : World) : (ReflectliteValue.parts (.agg #[.pointer (some ⟨12, 157, none⟩), .pointer (some a), .int .u64 406])).run Tryz.prog w = .ok (some (157, a, 406)) w := by kernel_rfl
theorem Tryz.parts25 (a : Addr) (w : World) : (ReflectliteValue.parts (.agg #[.pointer (some ⟨12, 157, none⟩), .pointer (some a), .int .u64 150])).run Tryz.prog w = .ok (some (157, a, 150)) w := by kernel_rfl
theorem Tryz.direct25 (w : World) : (Rtype.directlyAssignable 157 157).run Tryz.prog w = .ok true w := by kernel_rfl
theorem Tryz.size25 (w : World) : (sizeOf 157).run Tryz.prog w = .ok 1 w := by kernel_rfl
/-- (Value).Set: the *p.E variable at 'ta' gets what the Value's own variable 'b' holds. -/
theorem Tryz.set25 (ta b e : Addr) (old : Value) (W : World) (hb : W.cell? b = some (.pointer (some e))) (ht : W.cell? ta = some old) (hf : W.frozen? ta = false) :
    (ReflectliteValue.set #[.agg #[.pointer (some ⟨12, 157, none⟩), .pointer (some ta), .int .u64 406], .agg #[.pointer (some ⟨12, 157, none⟩), .pointer (some b), .int .u64 150]]).run Tryz.prog W
      = .ok (.tuple #[]) (W.setCell ta (.pointer (some e))) := by
  rw [rls]
  simp only [Sem.run_bind, Tryz.parts25a, Tryz.parts25, Result.andThen]
  simp [ReflectliteValue.flagAddr, loadVar, isAgg, underlying, Tryz.underlying157, hb, Result.andThen, Tryz.direct25, storeVar, Value.cells, storeCells, Addr.add]
  rw [run_store Tryz.prog W ta _ _ (by rfl)]
  simp [ht, hf]

set_option maxHeartbeats 4000000 in
theorem as_hit (e t : Addr) (old : Value) (w : World) (hg : w.cell? ⟨10, 0, none⟩ = some (.iface 245 (.agg #[.pointer (some ⟨12, 37, none⟩)]))) (ht0 : w.cell? t = some old) (hf0 : w.frozen? t = false) :
    Calls Tryz.prog 91 #[.iface 157 (.pointer (some e)), .iface 167 (.pointer (some t))] w fun ev w' => ev = .returned (.bool true) ∧ w' = ((((w.alloc (.cells #[.pointer (some t)] 167)).alloc (.cells #[.pointer (some ⟨12, 167, none⟩), .pointer (some ⟨w.heap.size, 0, none⟩), .int .u64 150] 208)).alloc (.cells #[.pointer (some ⟨12, 167, none⟩), .pointer (some ⟨w.heap.size, 0, none⟩), .int .u64 150] 208)).alloc (.cells #[.pointer (some e)] 157)).setCell t (.pointer (some e)) := by
  have h6 := @run_callFunc_extern Tryz.prog 128 _ (fun args => ReflectliteValue.unpack (args.getD 0 (.tuple #[]))) Tryz.func128 (by kernel_rfl) (by kernel_rfl) (by kernel_rfl) (by kernel_rfl)
  have h7 := @run_callFunc_extern Tryz.prog 129 _ (ReflectliteValue.methodAny (ReflectliteValue.valueError "reflectlite.Value.Type" 0) (fun t _ _ _ => ReflectliteType.toType t)) Tryz.func129 (by kernel_rfl) (by kernel_rfl) (by kernel_rfl) (by kernel_rfl)
  have h8 := @run_callFunc_extern Tryz.prog 130 _ (ReflectliteValue.method (ReflectliteValue.valueError "reflectlite.Value.IsNil" 0) ReflectliteValue.isNil) Tryz.func130 (by kernel_rfl) (by kernel_rfl) (by kernel_rfl) (by kernel_rfl)
  have h27 := @run_callFunc_extern Tryz.prog 205 _ (ReflectliteType.abiMethod fun t => do pure (.int .u8 (← Rtype.kind t))) Tryz.func205 (by kernel_rfl) (by kernel_rfl) (by kernel_rfl) (by kernel_rfl)
  have h37 := @run_callFunc_extern Tryz.prog 216 _ (ReflectliteType.method ReflectliteType.elem) Tryz.func216 (by kernel_rfl) (by kernel_rfl) (by kernel_rfl) (by kernel_rfl)
  have h38 := @run_callFunc_extern Tryz.prog 217 _ (ReflectliteType.relation "Implements" ReflectliteType.implements_) Tryz.func217 (by kernel_rfl) (by kernel_rfl) (by kernel_rfl) (by kernel_rfl)
  have h10 := @run_callFunc_extern Tryz.prog 132 _ ReflectliteType.typeOf Tryz.func132 (by kernel_rfl) (by kernel_rfl) (by kernel_rfl) (by kernel_rfl)
  have h35 := @run_callFunc_extern Tryz.prog 214 _ (ReflectliteType.relation "AssignableTo" ReflectliteType.assignableTo) Tryz.func214 (by kernel_rfl) (by kernel_rfl) (by kernel_rfl) (by kernel_rfl)
  have h11 := @run_callFunc_extern Tryz.prog 163 _ (ReflectliteValue.method (ReflectliteValue.valueError "reflectlite.Value.Elem" 0) ReflectliteValue.elem) Tryz.func163 (by kernel_rfl) (by kernel_rfl) (by kernel_rfl) (by kernel_rfl)
  have h12 := @run_callFunc_extern Tryz.prog 164 _ ReflectliteValue.set Tryz.func164 (by kernel_rfl) (by kernel_rfl) (by kernel_rfl) (by kernel_rfl)
  have tO := Tryz.typeOf25
  have mA := Tryz.methodAssignableTo
  have a25 := Tryz.assignable25
  have v25 := Tryz.valueOf25
  have f6 := Tryz.valueOf27
  have f7 := Tryz.type27
  have mK := Tryz.methodKind
  have mE := Tryz.methodElem
  have mI := Tryz.methodImplements
  have k27 := Tryz.kind27
  have k25 := Tryz.kind25
  have e27 := Tryz.elem27
  have i25 := Tryz.implements25
  have n8 := Tryz.isNil27 ⟨w.heap.size, 0, none⟩ t ((w.alloc (.cells #[.pointer (some t)] 167)).alloc (.cells #[.pointer (some ⟨12, 167, none⟩), .pointer (some ⟨w.heap.size, 0, none⟩), .int .u64 150] 208)) (by simp)
  have hlt : 10 < w.heap.size := World.block_lt_of_cell? w ⟨10, 0, none⟩ hg
  have hg2 : ((w.alloc (.cells #[.pointer (some t)] 167)).alloc (.cells #[.pointer (some ⟨12, 167, none⟩), .pointer (some ⟨w.heap.size, 0, none⟩), .int .u64 150] 208)).cell? ⟨10, 0, none⟩ = some (.iface 245 (.agg #[.pointer (some ⟨12, 37, none⟩)])) := by
    rw [World.cell?_alloc_lt _ _ ⟨10, 0, none⟩ (by simp; omega), World.cell?_alloc_lt _ _ ⟨10, 0, none⟩ hlt]; exact hg
  have htl : t.block < w.heap.size := by
    rcases Nat.lt_or_ge t.block w.heap.size with h | h
    · exact h
    · simp [World.cell?, Array.getElem?_eq_none h] at ht0
  have el := Tryz.elemV27 ⟨w.heap.size, 0, none⟩ t (((w.alloc (.cells #[.pointer (some t)] 167)).alloc (.cells #[.pointer (some ⟨12, 167, none⟩), .pointer (some ⟨w.heap.size, 0, none⟩), .int .u64 150] 208)).alloc (.cells #[.pointer (some ⟨12, 167, none⟩), .pointer (some ⟨w.heap.size, 0, none⟩), .int .u64 150] 208)) (by rw [World.cell?_alloc_lt _ _ ⟨w.heap.size, 0, none⟩ (by simp; omega)]; simp)
  have st := Tryz.set25 t ⟨w.heap.size + 1 + 1 + 1, 0, none⟩ e old ((((w.alloc (.cells #[.pointer (some t)] 167)).alloc (.cells #[.pointer (some ⟨12, 167, none⟩), .pointer (some ⟨w.heap.size, 0, none⟩), .int .u64 150] 208)).alloc (.cells #[.pointer (some ⟨12, 167, none⟩), .pointer (some ⟨w.heap.size, 0, none⟩), .int .u64 150] 208)).alloc (.cells #[.pointer (some e)] 157))
    (by rw [World.cell?_alloc_at _ _ _ _ (by simp)]; rfl)
    (by rw [World.cell?_alloc_lt _ _ t (by simp; omega), World.cell?_alloc_lt _ _ t (by simp; omega), World.cell?_alloc_lt _ _ t (by simp; omega), World.cell?_alloc_lt _ _ t htl]; exact ht0)
    (by rw [World.frozen?_alloc_old _ _ t (by simp; omega), World.frozen?_alloc_old _ _ t (by simp; omega), World.frozen?_alloc_old _ _ t (by simp; omega), World.frozen?_alloc_old _ _ t (Nat.ne_of_lt htl)]; exact hf0)
  go_enter Tryz.func91, Tryz.ntmps91
  go_wp2
  refine wp_loop_rounds 1 ?_
  rw [rounds_succ]
  go_wp2
  go_ret
  exact ⟨rfl, rfl⟩
end Go.Proofs.YtknhfobcejpmeaaGreatDoor

/- Is -/
/- The contracts of errors.Is at sentinels, and at an *api.Fault of one (turned from the worked example 'sentry'). -/
namespace Go.Proofs.YtknhfobcejpmeaaGreatDoor
open Go.RowKit Go.Extern.Stop Go.Stop Go.Extern
set_option linter.unusedVariables false

/-! ### CLOSED FACTS: what 'reflectlite.TypeOf(target).Comparable()' gives at such a target -/
theorem Tryz.isTypeOf (v : Value) (w : World) : (Extern.ReflectliteType.typeOf #[.iface 275 v]).run Tryz.prog w = .ok (.iface 245 (.agg #[.pointer (some ⟨12, 275, none⟩)])) w := by kernel_rfl
theorem Tryz.isComparable (w : World) : ((Extern.ReflectliteType.method fun t => do Extern.Rtype.noPackHeld "Comparable" t; (fun a => Value.bool a.comparable) <$> typeInfo t) #[.agg #[.pointer (some ⟨12, 275, none⟩)]]).run Tryz.prog w = .ok (.bool true) w := by kernel_rfl
theorem Tryz.isMethodComparable (v : Value) (w : World) : (Go.method 408 245 v "Comparable").run Tryz.prog w = .ok (215, v) w := by kernel_rfl
theorem Tryz.isComp : (Tryz.prog.info? 275).map (·.comparable) = some true := by kernel_rfl
theorem Tryz.isSize : (Tryz.prog.info? 296).map (·.size) = some 1 := by kernel_rfl

/-! ### CLOSED FACTS ON THE METHOD SETS: what errors.is's assertions find -/
theorem Tryz.noIsE (v : Value) (xT : TypeId) (w : World) : (Instr.typeAssert (.iface 275 v) xT 256 true).run Tryz.prog w = .ok (.tuple #[.nilIface, .bool false]) w := run_typeAssert_lacksB Tryz.underlying256 (by kernel_rfl) (by kernel_rfl) v xT w
theorem Tryz.noUnwrapE (v : Value) (xT : TypeId) (w : World) : (Instr.typeAssert (.iface 275 v) xT 252 true).run Tryz.prog w = .ok (.tuple #[.nilIface, .bool false]) w := run_typeAssert_lacksB Tryz.underlying252 (by kernel_rfl) (by kernel_rfl) v xT w
theorem Tryz.noUnwrapsE (v : Value) (xT : TypeId) (w : World) : (Instr.typeAssert (.iface 275 v) xT 254 true).run Tryz.prog w = .ok (.tuple #[.nilIface, .bool false]) w := run_typeAssert_lacksB Tryz.underlying254 (by kernel_rfl) (by kernel_rfl) v xT w
theorem Tryz.noIsW (v : Value) (xT : TypeId) (w : World) : (Instr.typeAssert (.iface 157 v) xT 256 true).run Tryz.prog w = .ok (.tuple #[.nilIface, .bool false]) w := run_typeAssert_lacksB Tryz.underlying256 (by kernel_rfl) (by kernel_rfl) v xT w
theorem Tryz.hasUnwrapW (v : Value) (xT : TypeId) (w : World) : (Instr.typeAssert (.iface 157 v) xT 252 true).run Tryz.prog w = .ok (.tuple #[.iface 157 v, .bool true]) w := run_typeAssert_hasB Tryz.underlying252 (by kernel_rfl) v xT w
theorem Tryz.methodUnwrap (v : Value) (w : World) : (Go.method 408 157 v "Unwrap").run Tryz.prog w = .ok (209, v) w := by kernel_rfl

set_option maxRecDepth 100000 in
/-- errors.Is(x, x), x a pointer to an errors.errorString. -/
theorem is_same (a : Addr) (w : World) :
    Calls Tryz.prog 92 #[.iface 275 (.pointer (some a)), .iface 275 (.pointer (some a))] w fun e w' => e = .returned (.bool true) ∧ w' = w := by
  obtain ⟨i, hi, hcmp⟩ := Option.map_eq_some_iff.1 Tryz.isComp
  obtain ⟨j, hj, hjs⟩ := Option.map_eq_some_iff.1 Tryz.isSize
  have h8 := @run_callFunc_extern Tryz.prog 132 _ Extern.ReflectliteType.typeOf Tryz.func132 (by kernel_rfl) (by kernel_rfl) (by kernel_rfl) (by kernel_rfl)
  have h32 := @run_callFunc_extern Tryz.prog 215 _ (Extern.ReflectliteType.method fun t => do Extern.Rtype.noPackHeld "Comparable" t; pure (.bool (← typeInfo t).comparable)) Tryz.func215 (by kernel_rfl) (by kernel_rfl) (by kernel_rfl) (by kernel_rfl)
  have tT := Tryz.isTypeOf
  have cT := Tryz.isComparable
  have mR := Tryz.isMethodComparable
  have heq := run_eql_iface_ptr_same (P := Tryz.prog) w a Tryz.underlying37 Tryz.underlying275 hi hcmp hj
  go_enter Tryz.func92, Tryz.ntmps92
  go_wp2
  refine wp_loop_rounds 1 ?_
  rw [rounds_succ]
  go_wp2
  go_ret
  exact ⟨rfl, rfl⟩

set_option maxRecDepth 100000 in
/-- errors.Is(x, y), two different pointers to errors.errorString: neither has Is nor Unwrap: false. -/
theorem is_other (a b : Addr) (ca cb : Array Value) (ta tb : TypeId) (w : World) (hne : a ≠ b) (ha : w.heap[a.block]? = some (.cells ca ta (0, 0))) (hb : w.heap[b.block]? = some (.cells cb tb (0, 0))) :
    Calls Tryz.prog 92 #[.iface 275 (.pointer (some a)), .iface 275 (.pointer (some b))] w fun e w' => e = .returned (.bool false) ∧ w' = w := by
  obtain ⟨i, hi, hcmp⟩ := Option.map_eq_some_iff.1 Tryz.isComp
  obtain ⟨j, hj, hjs⟩ := Option.map_eq_some_iff.1 Tryz.isSize
  have h8 := @run_callFunc_extern Tryz.prog 132 _ Extern.ReflectliteType.typeOf Tryz.func132 (by kernel_rfl) (by kernel_rfl) (by kernel_rfl) (by kernel_rfl)
  have h32 := @run_callFunc_extern Tryz.prog 215 _ (Extern.ReflectliteType.method fun t => do Extern.Rtype.noPackHeld "Comparable" t; pure (.bool (← typeInfo t).comparable)) Tryz.func215 (by kernel_rfl) (by kernel_rfl) (by kernel_rfl) (by kernel_rfl)
  have tT := Tryz.isTypeOf
  have cT := Tryz.isComparable
  have mR := Tryz.isMethodComparable
  have nE := Tryz.noIsE
  have uE := Tryz.noUnwrapE
  have vE := Tryz.noUnwrapsE
  have nW := Tryz.noIsW
  have uW := Tryz.hasUnwrapW
  have mU := Tryz.methodUnwrap
  have heq := run_eql_iface_ptr_other (P := Tryz.prog) w Tryz.underlying37 Tryz.underlying275 hi hcmp hj (by rw [hjs]; decide) hne ha hb
  go_enter Tryz.func92, Tryz.ntmps92
  go_wp2
  refine wp_loop_rounds 1 ?_
  rw [rounds_succ]
  go_wp2
  go_ret
  exact ⟨rfl, rfl⟩

set_option maxRecDepth 100000 in
/-- errors.Is(e, x), e a *api.Fault that wraps x itself: one Unwrap, then equal. -/
theorem is_wrap_same (pb po : Nat) (b : Addr) (w : World) (h1 : w.cell? ⟨pb, po + 1, none⟩ = some (.iface 275 (.pointer (some b)))) :
    Calls Tryz.prog 92 #[.iface 157 (.pointer (some ⟨pb, po, none⟩)), .iface 275 (.pointer (some b))] w fun e w' => e = .returned (.bool true) ∧ w' = w := by
  obtain ⟨i, hi, hcmp⟩ := Option.map_eq_some_iff.1 Tryz.isComp
  obtain ⟨j, hj, hjs⟩ := Option.map_eq_some_iff.1 Tryz.isSize
  have h8 := @run_callFunc_extern Tryz.prog 132 _ Extern.ReflectliteType.typeOf Tryz.func132 (by kernel_rfl) (by kernel_rfl) (by kernel_rfl) (by kernel_rfl)
  have h32 := @run_callFunc_extern Tryz.prog 215 _ (Extern.ReflectliteType.method fun t => do Extern.Rtype.noPackHeld "Comparable" t; pure (.bool (← typeInfo t).comparable)) Tryz.func215 (by kernel_rfl) (by kernel_rfl) (by kernel_rfl) (by kernel_rfl)
  have tT := Tryz.isTypeOf
  have cT := Tryz.isComparable
  have mR := Tryz.isMethodComparable
  have nE := Tryz.noIsE
  have uE := Tryz.noUnwrapE
  have vE := Tryz.noUnwrapsE
  have nW := Tryz.noIsW
  have uW := Tryz.hasUnwrapW
  have mU := Tryz.methodUnwrap
  have heq := run_eql_iface_ptr_same (P := Tryz.prog) w b Tryz.underlying37 Tryz.underlying275 hi hcmp hj
  have hty := run_eql_iface_types (P := Tryz.prog) 157 275 (.pointer (some ⟨pb, po, none⟩)) (.pointer (some b)) Tryz.underlying37 (by decide) w
  go_enter Tryz.func92, Tryz.ntmps92
  go_wp2
  refine wp_loop_rounds 2 ?_
  rw [rounds_succ]
  go_wp2
  rw [rounds_succ]
  go_wp2
  go_ret
  exact ⟨rfl, rfl⟩

set_option maxRecDepth 100000 in
/-- errors.Is(e, x), e a *api.Fault that wraps another error of errors.New's make. -/
theorem is_wrap_other (pb po : Nat) (b a : Addr) (ca cb : Array Value) (ta tb : TypeId) (w : World) (h1 : w.cell? ⟨pb, po + 1, none⟩ = some (.iface 275 (.pointer (some a)))) (hne : a ≠ b) (ha : w.heap[a.block]? = some (.cells ca ta (0, 0))) (hb : w.heap[b.block]? = some (.cells cb tb (0, 0))) :
    Calls Tryz.prog 92 #[.iface 157 (.pointer (some ⟨pb, po, none⟩)), .iface 275 (.pointer (some b))] w fun e w' => e = .returned (.bool false) ∧ w' = w := by
  obtain ⟨i, hi, hcmp⟩ := Option.map_eq_some_iff.1 Tryz.isComp
  obtain ⟨j, hj, hjs⟩ := Option.map_eq_some_iff.1 Tryz.isSize
  have h8 := @run_callFunc_extern Tryz.prog 132 _ Extern.ReflectliteType.typeOf Tryz.func132 (by kernel_rfl) (by kernel_rfl) (by kernel_rfl) (by kernel_rfl)
  have h32 := @run_callFunc_extern Tryz.prog 215 _ (Extern.ReflectliteType.method fun t => do Extern.Rtype.noPackHeld "Comparable" t; pure (.bool (← typeInfo t).comparable)) Tryz.func215 (by kernel_rfl) (by kernel_rfl) (by kernel_rfl) (by kernel_rfl)
  have tT := Tryz.isTypeOf
  have cT := Tryz.isComparable
  have mR := Tryz.isMethodComparable
  have nE := Tryz.noIsE
  have uE := Tryz.noUnwrapE
  have vE := Tryz.noUnwrapsE
  have nW := Tryz.noIsW
  have uW := Tryz.hasUnwrapW
  have mU := Tryz.methodUnwrap
  have heq := run_eql_iface_ptr_other (P := Tryz.prog) w Tryz.underlying37 Tryz.underlying275 hi hcmp hj (by rw [hjs]; decide) hne ha hb
  have hty := run_eql_iface_types (P := Tryz.prog) 157 275 (.pointer (some ⟨pb, po, none⟩)) (.pointer (some b)) Tryz.underlying37 (by decide) w
  go_enter Tryz.func92, Tryz.ntmps92
  go_wp2
  refine wp_loop_rounds 2 ?_
  rw [rounds_succ]
  go_wp2
  rw [rounds_succ]
  go_wp2
  go_ret
  exact ⟨rfl, rfl⟩

end Go.Proofs.YtknhfobcejpmeaaGreatDoor

/- AsMiss -/
/- errors.As at '**api.Fault' where the error is of errors.New's make: false. -/
namespace Go.Proofs.YtknhfobcejpmeaaGreatDoor
open Go.RowKit Go.Extern.Stop Go.Stop Go.Extern
set_option linter.unusedVariables false

theorem Tryz.assignableE (w : World) : (ReflectliteType.relation "AssignableTo" ReflectliteType.assignableTo #[.agg #[.pointer (some ⟨12, 275, none⟩)], .iface 245 (.agg #[.pointer (some ⟨12, 157, none⟩)])]).run Tryz.prog w = .ok (.bool false) w := by kernel_rfl
theorem Tryz.noAsE (v : Value) (xT : TypeId) (w : World) : (Instr.typeAssert (.iface 275 v) xT 249 true).run Tryz.prog w = .ok (.tuple #[.nilIface, .bool false]) w := run_typeAssert_lacksB Tryz.underlying249 (by kernel_rfl) (by kernel_rfl) v xT w

set_option maxHeartbeats 4000000 in
theorem as_miss (e t : Addr) (old : Value) (w : World) (hg : w.cell? ⟨10, 0, none⟩ = some (.iface 245 (.agg #[.pointer (some ⟨12, 37, none⟩)]))) (ht0 : w.cell? t = some old) (hf0 : w.frozen? t = false) :
    Calls Tryz.prog 91 #[.iface 275 (.pointer (some e)), .iface 167 (.pointer (some t))] w fun ev w' => ev = .returned (.bool false) ∧ w' = (((w.alloc (.cells #[.pointer (some t)] 167)).alloc (.cells #[.pointer (some ⟨12, 167, none⟩), .pointer (some ⟨w.heap.size, 0, none⟩), .int .u64 150] 208)).alloc (.cells #[.pointer (some ⟨12, 167, none⟩), .pointer (some ⟨w.heap.size, 0, none⟩), .int .u64 150] 208)) := by
  have h6 := @run_callFunc_extern Tryz.prog 128 _ (fun args => ReflectliteValue.unpack (args.getD 0 (.tuple #[]))) Tryz.func128 (by kernel_rfl) (by kernel_rfl) (by kernel_rfl) (by kernel_rfl)
  have h7 := @run_callFunc_extern Tryz.prog 129 _ (ReflectliteValue.methodAny (ReflectliteValue.valueError "reflectlite.Value.Type" 0) (fun t _ _ _ => ReflectliteType.toType t)) Tryz.func129 (by kernel_rfl) (by kernel_rfl) (by kernel_rfl) (by kernel_rfl)
  have h8 := @run_callFunc_extern Tryz.prog 130 _ (ReflectliteValue.method (ReflectliteValue.valueError "reflectlite.Value.IsNil" 0) ReflectliteValue.isNil) Tryz.func130 (by kernel_rfl) (by kernel_rfl) (by kernel_rfl) (by kernel_rfl)
  have h27 := @run_callFunc_extern Tryz.prog 205 _ (ReflectliteType.abiMethod fun t => do pure (.int .u8 (← Rtype.kind t))) Tryz.func205 (by kernel_rfl) (by kernel_rfl) (by kernel_rfl) (by kernel_rfl)
  have h37 := @run_callFunc_extern Tryz.prog 216 _ (ReflectliteType.method ReflectliteType.elem) Tryz.func216 (by kernel_rfl) (by kernel_rfl) (by kernel_rfl) (by kernel_rfl)
  have h38 := @run_callFunc_extern Tryz.prog 217 _ (ReflectliteType.relation "Implements" ReflectliteType.implements_) Tryz.func217 (by kernel_rfl) (by kernel_rfl) (by kernel_rfl) (by kernel_rfl)
  have h10 := @run_callFunc_extern Tryz.prog 132 _ ReflectliteType.typeOf Tryz.func132 (by kernel_rfl) (by kernel_rfl) (by kernel_rfl) (by kernel_rfl)
  have h35 := @run_callFunc_extern Tryz.prog 214 _ (ReflectliteType.relation "AssignableTo" ReflectliteType.assignableTo) Tryz.func214 (by kernel_rfl) (by kernel_rfl) (by kernel_rfl) (by kernel_rfl)
  have h11 := @run_callFunc_extern Tryz.prog 163 _ (ReflectliteValue.method (ReflectliteValue.valueError "reflectlite.Value.Elem" 0) ReflectliteValue.elem) Tryz.func163 (by kernel_rfl) (by kernel_rfl) (by kernel_rfl) (by kernel_rfl)
  have h12 := @run_callFunc_extern Tryz.prog 164 _ ReflectliteValue.set Tryz.func164 (by kernel_rfl) (by kernel_rfl) (by kernel_rfl) (by kernel_rfl)
  have tO := Tryz.isTypeOf
  have nA := Tryz.noAsE
  have nU := Tryz.noUnwrapE
  have nV := Tryz.noUnwrapsE
  have mA := Tryz.methodAssignableTo
  have a25 := Tryz.assignableE
  have f6 := Tryz.valueOf27
  have f7 := Tryz.type27
  have mK := Tryz.methodKind
  have mE := Tryz.methodElem
  have mI := Tryz.methodImplements
  have k27 := Tryz.kind27
  have k25 := Tryz.kind25
  have e27 := Tryz.elem27
  have i25 := Tryz.implements25
  have n8 := Tryz.isNil27 ⟨w.heap.size, 0, none⟩ t ((w.alloc (.cells #[.pointer (some t)] 167)).alloc (.cells #[.pointer (some ⟨12, 167, none⟩), .pointer (some ⟨w.heap.size, 0, none⟩), .int .u64 150] 208)) (by simp)
  have hlt : 10 < w.heap.size := World.block_lt_of_cell? w ⟨10, 0, none⟩ hg
  have hg2 : ((w.alloc (.cells #[.pointer (some t)] 167)).alloc (.cells #[.pointer (some ⟨12, 167, none⟩), .pointer (some ⟨w.heap.size, 0, none⟩), .int .u64 150] 208)).cell? ⟨10, 0, none⟩ = some (.iface 245 (.agg #[.pointer (some ⟨12, 37, none⟩)])) := by
    rw [World.cell?_alloc_lt _ _ ⟨10, 0, none⟩ (by simp; omega), World.cell?_alloc_lt _ _ ⟨10, 0, none⟩ hlt]; exact hg
  have htl : t.block < w.heap.size := by
    rcases Nat.lt_or_ge t.block w.heap.size with h | h
    · exact h
    · simp [World.cell?, Array.getElem?_eq_none h] at ht0
  go_enter Tryz.func91, Tryz.ntmps91
  go_wp2
  refine wp_loop_rounds 1 ?_
  rw [rounds_succ]
  go_wp2
  go_ret
  exact ⟨rfl, rfl⟩
end Go.Proofs.YtknhfobcejpmeaaGreatDoor

/- Code -/
/- The walk of plain.Code. -/
namespace Go.Proofs.YtknhfobcejpmeaaGreatDoor
open Go.RowKit Go.Deep
set_option linter.unusedVariables false

/-- the variable of an error's number -/
def gOf : Nat → Nat
  | 1 => 4
  | 2 => 2
  | 3 => 0
  | 4 => 5
  | 5 => 6
  | 6 => 7
  | 7 => 8
  | 8 => 3
  | 9 => 1
  | _ => 9
/-- all ten errors as they lie, and the handle that errors.As looks at -/
structure ErrsAll (w : World) (ea : Nat → Addr) : Prop where
  cell : ∀ c, 1 ≤ c → c ≤ 10 → w.cell? ⟨gOf c, 0, none⟩ = some (errV ea c)
  block : ∀ c, 1 ≤ c → c ≤ 10 → ∃ cs t, w.heap[(ea c).block]? = some (.cells cs t (0, 0))
  ne : ∀ c d, 1 ≤ c → c ≤ 10 → 1 ≤ d → d ≤ 10 → c ≠ d → ea c ≠ ea d
  type : w.cell? ⟨10, 0, none⟩ = some (.iface 245 (.agg #[.pointer (some ⟨12, 37, none⟩)]))
theorem ErrsAll.three {w : World} {ea : Nat → Addr} (E : ErrsAll w ea) : Errs3 w ea := ⟨E.cell 3 (by omega) (by omega), E.cell 9 (by omega) (by omega), E.cell 10 (by omega) (by omega)⟩
theorem ErrsAll.keep {w w' : World} {ea : Nat → Addr} {S : Nat → Prop} (E : ErrsAll w ea) (k : Keeps S w w') (hS : ∀ b, b < 12 → ¬ S b) (h : ∀ c, 1 ≤ c → c ≤ 10 → ¬ S (ea c).block) : ErrsAll w' ea where
  cell := fun c h1 h2 => k.cell' (E.cell c h1 h2) (hS _ (by
    have : c = 1 ∨ c = 2 ∨ c = 3 ∨ c = 4 ∨ c = 5 ∨ c = 6 ∨ c = 7 ∨ c = 8 ∨ c = 9 ∨ c = 10 := by omega
    rcases this with rfl | rfl | rfl | rfl | rfl | rfl | rfl | rfl | rfl | rfl <;> decide))
  block := fun c h1 h2 => by
    obtain ⟨cs, t, hb⟩ := E.block c h1 h2
    exact ⟨cs, t, (k.block _ (Array.getElem?_eq_some_iff.1 hb).1 (h c h1 h2)).trans hb⟩
  ne := E.ne
  type := k.cell' E.type (hS _ (by decide))
theorem ErrsAll.quiet {w w' : World} {ea : Nat → Addr} (E : ErrsAll w ea) (k : Keeps (fun _ => False) w w') : ErrsAll w' ea := E.keep k (fun _ _ h => h) (fun _ _ _ h => h)

theorem code_nil (w : World) :
    Calls Tryz.prog 51 #[.nilIface] w fun e w' => e = .returned (.tuple #[.int .i64 0, .int .i64 (-1)]) ∧ w = w' := by
  go_enter Tryz.func51, Tryz.ntmps51
  go_wp2_with fail
  go_ret2
  exact ⟨rfl, rfl⟩

theorem cell_set {w : World} {b o : Nat} {old v : Value} {T : TypeId} {cs : Array Value} {fz : Nat × Nat} (h : w.heap[b]? = some (.cells cs T fz)) (ho : o < cs.size) : (w.setCell ⟨b, o, none⟩ v).cell? ⟨b, o, none⟩ = some v := by
  have h2 : (w.setCell ⟨b, o, none⟩ v).heap[b]? = some (.cells (cs.setIfInBounds o v) T fz) := by simp [World.setCell, Array.getElem?_modify, h]
  unfold World.cell?
  rw [h2]
  simp [ho]
/-- the ten errors in a row -/
theorem ten_cells (w : World) (ea : Nat → Addr) (T : TypeId) (i : Nat) (hi : i < 10) :
    (w.alloc (.cells #[.iface 275 (.pointer (some (ea 1))), .iface 275 (.pointer (some (ea 2))), .iface 275 (.pointer (some (ea 3))), .iface 275 (.pointer (some (ea 4))), .iface 275 (.pointer (some (ea 5))), .iface 275 (.pointer (some (ea 6))), .iface 275 (.pointer (some (ea 7))), .iface 275 (.pointer (some (ea 8))), .iface 275 (.pointer (some (ea 9))), .iface 275 (.pointer (some (ea 10)))] T)).cell? ⟨w.heap.size, i, none⟩ = some (.iface 275 (.pointer (some (ea (i + 1))))) := by
  unfold World.cell?
  rw [blk_alloc_new]
  have : i = 0 ∨ i = 1 ∨ i = 2 ∨ i = 3 ∨ i = 4 ∨ i = 5 ∨ i = 6 ∨ i = 7 ∨ i = 8 ∨ i = 9 := by omega
  rcases this with rfl | rfl | rfl | rfl | rfl | rfl | rfl | rfl | rfl | rfl <;> rfl

set_option maxRecDepth 100000 in
set_option maxHeartbeats 2000000 in
theorem code_sent (c : Nat) (h1 : 1 ≤ c) (h2 : c ≤ 10) (w : World) (ea : Nat → Addr) (E : ErrsAll w ea) :
    Calls Tryz.prog 51 #[errV ea c] w fun e w' => e = .returned (.tuple #[.int .i64 c, .int .i64 (-1)]) ∧ Keeps (fun _ => False) w w' := by
  have K0 := (Keeps.refl (fun _ => False) w).alloc (.cells #[.pointer none] 157)
  have ht0 : (w.alloc (.cells #[.pointer none] 157)).cell? ⟨w.heap.size, 0, none⟩ = some (.pointer none) := by simp
  unfold errV
  go_enter Tryz.func51, Tryz.ntmps51
  go_wp2_with fail
  refine (as_miss _ _ _ _ (E.quiet K0).type ht0 (by simp)).mono ?_
  rintro e w3 ⟨rfl, hw3⟩
  have K3 : Keeps (fun _ => False) w w3 := by rw [hw3]; exact ((K0.alloc _).alloc _).alloc _
  clear hw3 ht0 K0
  have E3 := E.quiet K3
  have g1 : w3.cell? ⟨gOf 1, 0, none⟩ = some (.iface 275 (.pointer (some (ea 1)))) := E3.cell 1 (by omega) (by omega)
  have g2 : w3.cell? ⟨gOf 2, 0, none⟩ = some (.iface 275 (.pointer (some (ea 2)))) := E3.cell 2 (by omega) (by omega)
  have g3 : w3.cell? ⟨gOf 3, 0, none⟩ = some (.iface 275 (.pointer (some (ea 3)))) := E3.cell 3 (by omega) (by omega)
  have g4 : w3.cell? ⟨gOf 4, 0, none⟩ = some (.iface 275 (.pointer (some (ea 4)))) := E3.cell 4 (by omega) (by omega)
  have g5 : w3.cell? ⟨gOf 5, 0, none⟩ = some (.iface 275 (.pointer (some (ea 5)))) := E3.cell 5 (by omega) (by omega)
  have g6 : w3.cell? ⟨gOf 6, 0, none⟩ = some (.iface 275 (.pointer (some (ea 6)))) := E3.cell 6 (by omega) (by omega)
  have g7 : w3.cell? ⟨gOf 7, 0, none⟩ = some (.iface 275 (.pointer (some (ea 7)))) := E3.cell 7 (by omega) (by omega)
  have g8 : w3.cell? ⟨gOf 8, 0, none⟩ = some (.iface 275 (.pointer (some (ea 8)))) := E3.cell 8 (by omega) (by omega)
  have g9 : w3.cell? ⟨gOf 9, 0, none⟩ = some (.iface 275 (.pointer (some (ea 9)))) := E3.cell 9 (by omega) (by omega)
  have g10 : w3.cell? ⟨gOf 10, 0, none⟩ = some (.iface 275 (.pointer (some (ea 10)))) := E3.cell 10 (by omega) (by omega)
  simp only [gOf] at g1 g2 g3 g4 g5 g6 g7 g8 g9 g10
  have hten := fun i hi => ten_cells w3 ea 37 i hi
  go_wp2_with fail
  have K4 := K3.alloc (.cells #[.iface 275 (.pointer (some (ea 1))), .iface 275 (.pointer (some (ea 2))), .iface 275 (.pointer (some (ea 3))), .iface 275 (.pointer (some (ea 4))), .iface 275 (.pointer (some (ea 5))), .iface 275 (.pointer (some (ea 6))), .iface 275 (.pointer (some (ea 7))), .iface 275 (.pointer (some (ea 8))), .iface 275 (.pointer (some (ea 9))), .iface 275 (.pointer (some (ea 10)))] 37)
  generalize w3.alloc (.cells #[.iface 275 (.pointer (some (ea 1))), .iface 275 (.pointer (some (ea 2))), .iface 275 (.pointer (some (ea 3))), .iface 275 (.pointer (some (ea 4))), .iface 275 (.pointer (some (ea 5))), .iface 275 (.pointer (some (ea 6))), .iface 275 (.pointer (some (ea 7))), .iface 275 (.pointer (some (ea 8))), .iface 275 (.pointer (some (ea 9))), .iface 275 (.pointer (some (ea 10)))] 37) = w4 at *
  generalize w3.heap.size = B at *
  have E4 := E.quiet K4
  clear g1 g2 g3 g4 g5 g6 g7 g8 g9 g10 E3 K3
  go_loop [3, 28] (fun s3 s28 => s3 = .int .i64 (-1) ∧ ∃ i : Nat, i < c ∧ s28 = .int .i64 i) (fun _ s28 => 10 - (intOf s28).toNat)
  case atStart => exact ⟨rfl, 0, by omega, rfl⟩
  case round =>
    obtain ⟨rfl, i, hi, rfl⟩ := hrel
    have hc := hten i (by omega)
    by_cases hic : i + 1 = c
    · subst hic
      go_wp2_with fail
      refine (is_same _ _).mono ?_
      rintro e w' ⟨rfl, rfl⟩
      go_wp2_with fail
      go_ret2
      exact ⟨rfl, K4⟩
    · obtain ⟨ca, ta, hba⟩ := E4.block c h1 h2
      obtain ⟨cb, tb, hbb⟩ := E4.block (i + 1) (by omega) (by omega)
      go_wp2_with fail
      refine (is_other _ _ _ _ _ _ _ (E.ne c (i + 1) h1 h2 (by omega) (by omega) (fun h => hic h.symm)) hba hbb).mono ?_
      rintro e w' ⟨rfl, rfl⟩
      go_wp2_with fail
      go_round
      case rel => exact ⟨rfl, i + 1, by omega, by go_num⟩
      case measure => simp [intOf]; omega

set_option maxRecDepth 100000 in
set_option maxHeartbeats 2000000 in
theorem code_fault (c : Nat) (h1 : 1 ≤ c) (h2 : c ≤ 10) (b : Nat) (at_ : Int) (w : World) (ea : Nat → Addr) (E : ErrsAll w ea) (hb0 : w.cell? ⟨b, 0, none⟩ = some (.int .i64 at_)) (hb1 : w.cell? ⟨b, 1, none⟩ = some (errV ea c)) :
    Calls Tryz.prog 51 #[.iface 157 (.pointer (some ⟨b, 0, none⟩))] w fun e w' => e = .returned (.tuple #[.int .i64 c, .int .i64 at_]) ∧ Keeps (fun _ => False) w w' := by
  have K0 := (Keeps.refl (fun _ => False) w).alloc (.cells #[.pointer none] 157)
  have ht0 : (w.alloc (.cells #[.pointer none] 157)).cell? ⟨w.heap.size, 0, none⟩ = some (.pointer none) := by simp
  unfold errV at hb1
  go_enter Tryz.func51, Tryz.ntmps51
  go_wp2_with fail
  refine (as_hit _ _ _ _ (E.quiet K0).type ht0 (by simp)).mono ?_
  rintro e w3 ⟨rfl, hw3⟩
  have K3 : Keeps (fun _ => False) w w3 := by rw [hw3]; exact ((((K0.alloc _).alloc _).alloc _).alloc _).setCell (a := ⟨w.heap.size, 0, none⟩) (fun h => absurd h (Nat.lt_irrefl _)) _
  have hf3 : w3.cell? ⟨w.heap.size, 0, none⟩ = some (.pointer (some ⟨b, 0, none⟩)) := by
    have hz := blk_alloc_new w (.cells #[.pointer none] 157)
    have hl : w.heap.size < (w.alloc (.cells #[.pointer none] 157)).heap.size := (Array.getElem?_eq_some_iff.1 hz).1
    have kk : ∀ o1 o2 o3 o4, Keeps (fun _ => False) (w.alloc (.cells #[.pointer none] 157)) (((((w.alloc (.cells #[.pointer none] 157)).alloc o1).alloc o2).alloc o3).alloc o4) := fun o1 o2 o3 o4 => ((((Keeps.refl _ _).alloc o1).alloc o2).alloc o3).alloc o4
    rw [hw3]
    exact cell_set (old := .nilIface) (((kk _ _ _ _).block _ hl (fun h => h)).trans hz) (by simp)
  have hd0 := K3.cell' hb0 (fun h => h)
  have hd1 := K3.cell' hb1 (fun h => h)
  clear hw3 ht0 K0
  have E3 := E.quiet K3
  have g1 : w3.cell? ⟨gOf 1, 0, none⟩ = some (.iface 275 (.pointer (some (ea 1)))) := E3.cell 1 (by omega) (by omega)
  have g2 : w3.cell? ⟨gOf 2, 0, none⟩ = some (.iface 275 (.pointer (some (ea 2)))) := E3.cell 2 (by omega) (by omega)
  have g3 : w3.cell? ⟨gOf 3, 0, none⟩ = some (.iface 275 (.pointer (some (ea 3)))) := E3.cell 3 (by omega) (by omega)
  have g4 : w3.cell? ⟨gOf 4, 0, none⟩ = some (.iface 275 (.pointer (some (ea 4)))) := E3.cell 4 (by omega) (by omega)
  have g5 : w3.cell? ⟨gOf 5, 0, none⟩ = some (.iface 275 (.pointer (some (ea 5)))) := E3.cell 5 (by omega) (by omega)
  have g6 : w3.cell? ⟨gOf 6, 0, none⟩ = some (.iface 275 (.pointer (some (ea 6)))) := E3.cell 6 (by omega) (by omega)
  have g7 : w3.cell? ⟨gOf 7, 0, none⟩ = some (.iface 275 (.pointer (some (ea 7)))) := E3.cell 7 (by omega) (by omega)
  have g8 : w3.cell? ⟨gOf 8, 0, none⟩ = some (.iface 275 (.pointer (some (ea 8)))) := E3.cell 8 (by omega) (by omega)
  have g9 : w3.cell? ⟨gOf 9, 0, none⟩ = some (.iface 275 (.pointer (some (ea 9)))) := E3.cell 9 (by omega) (by omega)
  have g10 : w3.cell? ⟨gOf 10, 0, none⟩ = some (.iface 275 (.pointer (some (ea 10)))) := E3.cell 10 (by omega) (by omega)
  simp only [gOf] at g1 g2 g3 g4 g5 g6 g7 g8 g9 g10
  have hten := fun i hi => ten_cells w3 ea 37 i hi
  go_wp2_with fail
  have K4 := K3.alloc (.cells #[.iface 275 (.pointer (some (ea 1))), .iface 275 (.pointer (some (ea 2))), .iface 275 (.pointer (some (ea 3))), .iface 275 (.pointer (some (ea 4))), .iface 275 (.pointer (some (ea 5))), .iface 275 (.pointer (some (ea 6))), .iface 275 (.pointer (some (ea 7))), .iface 275 (.pointer (some (ea 8))), .iface 275 (.pointer (some (ea 9))), .iface 275 (.pointer (some (ea 10)))] 37)
  generalize w3.alloc (.cells #[.iface 275 (.pointer (some (ea 1))), .iface 275 (.pointer (some (ea 2))), .iface 275 (.pointer (some (ea 3))), .iface 275 (.pointer (some (ea 4))), .iface 275 (.pointer (some (ea 5))), .iface 275 (.pointer (some (ea 6))), .iface 275 (.pointer (some (ea 7))), .iface 275 (.pointer (some (ea 8))), .iface 275 (.pointer (some (ea 9))), .iface 275 (.pointer (some (ea 10)))] 37) = w4 at *
  generalize w3.heap.size = B at *
  have E4 := E.quiet K4
  have hd4 := K4.cell' hb1 (fun h => h)
  clear hd0 hd1 g1 g2 g3 g4 g5 g6 g7 g8 g9 g10 E3 K3
  go_loop [3, 28] (fun s3 s28 => s3 = .int .i64 at_ ∧ ∃ i : Nat, i < c ∧ s28 = .int .i64 i) (fun _ s28 => 10 - (intOf s28).toNat)
  case atStart => exact ⟨rfl, 0, by omega, rfl⟩
  case round =>
    obtain ⟨rfl, i, hi, rfl⟩ := hrel
    have hc := hten i (by omega)
    by_cases hic : i + 1 = c
    · subst hic
      go_wp2_with fail
      refine (is_wrap_same b 0 _ _ hd4).mono ?_
      rintro e w' ⟨rfl, rfl⟩
      go_wp2_with fail
      go_ret2
      exact ⟨rfl, K4⟩
    · obtain ⟨ca, ta, hba⟩ := E4.block c h1 h2
      obtain ⟨cb, tb, hbb⟩ := E4.block (i + 1) (by omega) (by omega)
      go_wp2_with fail
      refine (is_wrap_other b 0 _ _ _ _ _ _ _ hd4 (E.ne c (i + 1) h1 h2 (by omega) (by omega) (fun h => hic h.symm)) hba hbb).mono ?_
      rintro e w' ⟨rfl, rfl⟩
      go_wp2_with fail
      go_round
      case rel => exact ⟨rfl, i + 1, by omega, by go_num⟩
      case measure => simp [intOf]; omega

set_option maxRecDepth 100000 in
set_option maxHeartbeats 2000000 in
theorem code_other (a : Addr) (ca : Array Value) (ta : TypeId) (w : World) (ea : Nat → Addr) (E : ErrsAll w ea) (hne : ∀ c, 1 ≤ c → c ≤ 10 → a ≠ ea c) (hba : w.heap[a.block]? = some (.cells ca ta (0, 0))) :
    Calls Tryz.prog 51 #[.iface 275 (.pointer (some a))] w fun e w' => e = .returned (.tuple #[.int .i64 (-1), .int .i64 (-1)]) ∧ Keeps (fun _ => False) w w' := by
  have K0 := (Keeps.refl (fun _ => False) w).alloc (.cells #[.pointer none] 157)
  have ht0 : (w.alloc (.cells #[.pointer none] 157)).cell? ⟨w.heap.size, 0, none⟩ = some (.pointer none) := by simp
  go_enter Tryz.func51, Tryz.ntmps51
  go_wp2_with fail
  refine (as_miss _ _ _ _ (E.quiet K0).type ht0 (by simp)).mono ?_
  rintro e w3 ⟨rfl, hw3⟩
  have K3 : Keeps (fun _ => False) w w3 := by rw [hw3]; exact ((K0.alloc _).alloc _).alloc _
  clear hw3 ht0 K0
  have E3 := E.quiet K3
  have g1 : w3.cell? ⟨gOf 1, 0, none⟩ = some (.iface 275 (.pointer (some (ea 1)))) := E3.cell 1 (by omega) (by omega)
  have g2 : w3.cell? ⟨gOf 2, 0, none⟩ = some (.iface 275 (.pointer (some (ea 2)))) := E3.cell 2 (by omega) (by omega)
  have g3 : w3.cell? ⟨gOf 3, 0, none⟩ = some (.iface 275 (.pointer (some (ea 3)))) := E3.cell 3 (by omega) (by omega)
  have g4 : w3.cell? ⟨gOf 4, 0, none⟩ = some (.iface 275 (.pointer (some (ea 4)))) := E3.cell 4 (by omega) (by omega)
  have g5 : w3.cell? ⟨gOf 5, 0, none⟩ = some (.iface 275 (.pointer (some (ea 5)))) := E3.cell 5 (by omega) (by omega)
  have g6 : w3.cell? ⟨gOf 6, 0, none⟩ = some (.iface 275 (.pointer (some (ea 6)))) := E3.cell 6 (by omega) (by omega)
  have g7 : w3.cell? ⟨gOf 7, 0, none⟩ = some (.iface 275 (.pointer (some (ea 7)))) := E3.cell 7 (by omega) (by omega)
  have g8 : w3.cell? ⟨gOf 8, 0, none⟩ = some (.iface 275 (.pointer (some (ea 8)))) := E3.cell 8 (by omega) (by omega)
  have g9 : w3.cell? ⟨gOf 9, 0, none⟩ = some (.iface 275 (.pointer (some (ea 9)))) := E3.cell 9 (by omega) (by omega)
  have g10 : w3.cell? ⟨gOf 10, 0, none⟩ = some (.iface 275 (.pointer (some (ea 10)))) := E3.cell 10 (by omega) (by omega)
  simp only [gOf] at g1 g2 g3 g4 g5 g6 g7 g8 g9 g10
  have hten := fun i hi => ten_cells w3 ea 37 i hi
  go_wp2_with fail
  have K4 := K3.alloc (.cells #[.iface 275 (.pointer (some (ea 1))), .iface 275 (.pointer (some (ea 2))), .iface 275 (.pointer (some (ea 3))), .iface 275 (.pointer (some (ea 4))), .iface 275 (.pointer (some (ea 5))), .iface 275 (.pointer (some (ea 6))), .iface 275 (.pointer (some (ea 7))), .iface 275 (.pointer (some (ea 8))), .iface 275 (.pointer (some (ea 9))), .iface 275 (.pointer (some (ea 10)))] 37)
  generalize w3.alloc (.cells #[.iface 275 (.pointer (some (ea 1))), .iface 275 (.pointer (some (ea 2))), .iface 275 (.pointer (some (ea 3))), .iface 275 (.pointer (some (ea 4))), .iface 275 (.pointer (some (ea 5))), .iface 275 (.pointer (some (ea 6))), .iface 275 (.pointer (some (ea 7))), .iface 275 (.pointer (some (ea 8))), .iface 275 (.pointer (some (ea 9))), .iface 275 (.pointer (some (ea 10)))] 37) = w4 at *
  generalize w3.heap.size = B at *
  have E4 := E.quiet K4
  have hb4 := (K4.block _ (Array.getElem?_eq_some_iff.1 hba).1 (fun h => h)).trans hba
  clear g1 g2 g3 g4 g5 g6 g7 g8 g9 g10 E3 K3
  go_loop [3, 28] (fun s3 s28 => s3 = .int .i64 (-1) ∧ ∃ i : Nat, i ≤ 10 ∧ s28 = .int .i64 i) (fun _ s28 => 10 - (intOf s28).toNat)
  case atStart => exact ⟨rfl, 0, by omega, rfl⟩
  case round =>
    obtain ⟨rfl, i, hi, rfl⟩ := hrel
    by_cases hic : i < 10
    · have hc := hten i hic
      obtain ⟨cb, tb, hbb⟩ := E4.block (i + 1) (by omega) (by omega)
      go_wp2_with fail
      refine (is_other _ _ _ _ _ _ _ (hne (i + 1) (by omega) (by omega)) hb4 hbb).mono ?_
      rintro e w' ⟨rfl, rfl⟩
      go_wp2_with fail
      go_round
      case rel => exact ⟨rfl, i + 1, by omega, by go_num⟩
      case measure => simp [intOf]; omega
    · obtain rfl : i = 10 := by omega
      go_wp2_with fail
      go_ret2
      exact ⟨rfl, K4⟩
end Go.Proofs.YtknhfobcejpmeaaGreatDoor
