import Derived.Test.YtlbdkcnbgdmpaaaDoorTakesz2
import Derived.Test.YtlbdkcnbgdmpaaaDoorTakesz3
import Derived.Deep.RegionHeld3
import Derived.Deep.RegionWith
import Derived.Test.YtlbdkcnbgdmpaaaDoorProg
import Derived.WalkKit
import Derived.Test.YtlbdkcnbgdmpaaaDoorTakesz0
import Derived.LaidEql
import Derived.Stop.Asserts
import Derived.RowKitTokens
import Derived.Test.YtlbdkcnbgdmpaaaDoorTakesz1

/- RefBus -/
/- The walks of the reference's NewBus, deviceError, Byte. -/
namespace Go.Proofs.YtlbdkcnbgdmpaaaDoor
open Go.RowKit Go.Deep
set_option linter.unusedVariables false

theorem devC_rightC (a n : Int) (h : ¬ a < 16384) : devC a n = if rightC a n ≠ 10 then rightC a n else if n = 4 ∧ 65536 ≤ a ∧ a ≤ 65548 then 0 else 10 := by
  unfold devC rightC
  by_cases h1 : n ≠ 1 ∧ n ≠ 2 ∧ n ≠ 4
  · simp [h1]
  · rw [if_neg h1, if_neg h1]
    by_cases h2 : a % n ≠ 0
    · rw [if_pos h2, if_pos h2]; rfl
    · rw [if_neg h2, if_neg h2]
      have h4 : (if 16384 ≤ a then 10 else 0) = 10 := if_pos (by omega)
      rw [h4]
      by_cases h3 : n ≠ 4 ∨ a < 65536 ∨ 65548 < a
      · rw [if_pos h3, if_neg (by simp), if_neg (by omega)]
      · rw [if_neg h3, if_neg (by simp), if_pos (by omega)]
/-- one byte as a text -/
def byteS (n : Int) : List UInt8 := [UInt8.ofNat n.toNat]
end Go.Proofs.YtlbdkcnbgdmpaaaDoor

/- RefBusDo -/
/- The walks of the reference's (*Bus).Load and Store. -/
namespace Go.Proofs.YtlbdkcnbgdmpaaaDoor
open Go.RowKit Go.Deep
set_option linter.unusedVariables false

theorem rng_i64 {a : Int} (h : (Lit.int .i64 a).wf = true) : -9223372036854775808 ≤ a ∧ a ≤ 9223372036854775807 := by
  simp [Lit.wf, IntKind.min, IntKind.max, IntKind.signed, IntKind.bits] at h; omega
theorem devC_le (a n : Int) : devC a n < 11 := by unfold devC; split <;> (try split) <;> (try split) <;> omega
/-- what a store to a device leaves with the reference -/
def outL (a v : Int) (l : List UInt8) : List UInt8 := if a = 65536 then l ++ byteS (v % 256) else l
theorem part8 (v : Int) (w : World) (hv : 0 ≤ v ∧ v < 4294967296) :
    Calls Tryd.prog 56 #[.int .u32 v, .int .i64 0, .int .i64 8] w fun e w' => e = .returned (.int .i64 (v % 256)) ∧ w = w' :=
  (part_any v 0 8 w hv (by omega) (by omega)).mono fun e w' ⟨he, hw⟩ => ⟨he.trans (ret_i (by show v / 1 % 256 = v % 256; omega)), hw⟩
theorem str_add (l m : List UInt8) : (⟨l.toArray⟩ : ByteArray) ++ ⟨m.toArray⟩ = ⟨(l ++ m).toArray⟩ := by
  apply ByteArray.ext
  simp

theorem Keeps.frozen {S : Nat → Prop} {w w' : World} (h : Keeps S w w') {b : Nat} (o : Nat) (hb : b < w.heap.size) (hs : ¬ S b) (hf : w.frozen? ⟨b, o, none⟩ = false) : w'.frozen? ⟨b, o, none⟩ = false := by
  have := h.block b hb hs
  unfold World.frozen? at hf ⊢
  rw [this]
  exact hf
end Go.Proofs.YtlbdkcnbgdmpaaaDoor

/- As -/
/- The contracts of errors.As at '**api.Fault' (turned from the worked example 'toyas'). -/
namespace Go.Proofs.YtlbdkcnbgdmpaaaDoor
open Go.RowKit Go.Extern.Stop Go.Stop Go.Extern
set_option linter.unusedVariables false

/-! ### CLOSED FACTS ON THE MODEL's ENTRIES FOR internal/reflectlite, at this program's types: 25: *p.E · 27: **p.E · 23: error · 45: reflectlite's rtype · 1: how many package-level variables the dump has -/
theorem Tryd.valueOf27 (t : Addr) (w : World) : (ReflectliteValue.unpack (.iface 106 (.pointer (some t)))).run Tryd.prog w
    = .ok (.agg #[.pointer (some ⟨11, 106, none⟩), .pointer (some ⟨w.heap.size, 0, none⟩), .int .u64 150]) (w.alloc (.cells #[.pointer (some t)] 106)) := by kernel_rfl
theorem Tryd.type27 (a : Addr) (w : World) : (ReflectliteValue.methodAny (ReflectliteValue.valueError "reflectlite.Value.Type" 0) (fun t _ _ _ => ReflectliteType.toType t) #[.agg #[.pointer (some ⟨11, 106, none⟩), .pointer (some a), .int .u64 150]]).run Tryd.prog w
    = .ok (.iface 142 (.agg #[.pointer (some ⟨11, 106, none⟩)])) w := by kernel_rfl
theorem Tryd.methodKind (h : Value) (w : World) : (Go.method 306 142 (.agg #[h]) "Kind").run Tryd.prog w = .ok (115, h) w := by kernel_rfl
theorem Tryd.kind27 (w : World) : ((ReflectliteType.abiMethod fun t => (fun a : Nat => Value.int IntKind.u8 (a : Int)) <$> Rtype.kind t) #[.pointer (some ⟨11, 106, none⟩)]).run Tryd.prog w = .ok (.int .u8 22) w := by kernel_rfl
theorem Tryd.kind25 (w : World) : ((ReflectliteType.abiMethod fun t => (fun a : Nat => Value.int IntKind.u8 (a : Int)) <$> Rtype.kind t) #[.pointer (some ⟨11, 104, none⟩)]).run Tryd.prog w = .ok (.int .u8 22) w := by kernel_rfl

/-! ### THE ENTRIES THAT READ OR WRITE MEMORY: laws with a premise on the cell (after Derived/Lib/ReflectliteSlice.lean's manner: each unfolding a lemma of its own, by rfl) -/
theorem rlm (z : Sem Value) (f : TypeId → Addr → Nat → Nat → Sem Value) (v : Value) :
    ReflectliteValue.method z f #[v] = (do match ← ReflectliteValue.parts v with | none => z | some (t, a, fl) => f t a fl (fl % 32)) := rfl
theorem Tryd.parts27 (a : Addr) (w : World) : (ReflectliteValue.parts (.agg #[.pointer (some ⟨11, 106, none⟩), .pointer (some a), .int .u64 150])).run Tryd.prog w = .ok (some (106, a, 150)) w := by kernel_rfl
/-- (Value).IsNil at the Value of a **p.E that is not nil. -/
theorem Tryd.isNil27 (a p : Addr) (W : World) (ha : W.cell? a = some (.pointer (some p))) :
    (ReflectliteValue.method (ReflectliteValue.valueError "reflectlite.Value.IsNil" 0) ReflectliteValue.isNil #[.agg #[.pointer (some ⟨11, 106, none⟩), .pointer (some a), .int .u64 150]]).run Tryd.prog W = .ok (.bool false) W := by
  rw [rlm]
  simp only [Sem.run_bind, Tryd.parts27, Result.andThen]
  simp [ReflectliteValue.isNil, loadVar, isAgg, underlying, Tryd.underlying106, ha, Result.andThen]

theorem Tryd.methodElem (h : Value) (w : World) : (Go.method 306 142 (.agg #[h]) "Elem").run Tryd.prog w = .ok (129, .agg #[h]) w := by kernel_rfl
theorem Tryd.methodImplements (h : Value) (w : World) : (Go.method 306 142 (.agg #[h]) "Implements").run Tryd.prog w = .ok (130, .agg #[h]) w := by kernel_rfl
theorem Tryd.methodAssignableTo (h : Value) (w : World) : (Go.method 306 142 (.agg #[h]) "AssignableTo").run Tryd.prog w = .ok (127, .agg #[h]) w := by kernel_rfl
theorem Tryd.elem27 (w : World) : (ReflectliteType.method ReflectliteType.elem #[.agg #[.pointer (some ⟨11, 106, none⟩)]]).run Tryd.prog w = .ok (.iface 142 (.agg #[.pointer (some ⟨11, 104, none⟩)])) w := by kernel_rfl
theorem Tryd.implements25 (w : World) : (ReflectliteType.relation "Implements" ReflectliteType.implements_ #[.agg #[.pointer (some ⟨11, 104, none⟩)], .iface 142 (.agg #[.pointer (some ⟨11, 32, none⟩)])]).run Tryd.prog w = .ok (.bool true) w := by kernel_rfl
theorem Tryd.typeOf25 (v : Value) (w : World) : (ReflectliteType.typeOf #[.iface 104 v]).run Tryd.prog w = .ok (.iface 142 (.agg #[.pointer (some ⟨11, 104, none⟩)])) w := by kernel_rfl
theorem Tryd.assignable25 (w : World) : (ReflectliteType.relation "AssignableTo" ReflectliteType.assignableTo #[.agg #[.pointer (some ⟨11, 104, none⟩)], .iface 142 (.agg #[.pointer (some ⟨11, 104, none⟩)])]).run Tryd.prog w = .ok (.bool true) w := by kernel_rfl
theorem Tryd.valueOf25 (e : Addr) (w : World) : (ReflectliteValue.unpack (.iface 104 (.pointer (some e)))).run Tryd.prog w
    = .ok (.agg #[.pointer (some ⟨11, 104, none⟩), .pointer (some ⟨w.heap.size, 0, none⟩), .int .u64 150]) (w.alloc (.cells #[.pointer (some e)] 104)) := by kernel_rfl

theorem Tryd.elemOf27 (w : World) : (Rtype.elem? 106).run Tryd.prog w = .ok (some 104) w := by kernel_rfl
theorem Tryd.mk25 (p : Addr) (w : World) : (ReflectliteValue.mk 104 p ReflectliteValue.flagAddr).run Tryd.prog w = .ok (.agg #[.pointer (some ⟨11, 104, none⟩), .pointer (some p), .int .u64 406]) w := by kernel_rfl
/-- (Value).Elem at the Value of a **p.E that is not nil: the Value of the *p.E variable that it points to, addressable. -/
theorem Tryd.elemV27 (a p : Addr) (W : World) (ha : W.cell? a = some (.pointer (some p))) :
    (ReflectliteValue.method (ReflectliteValue.valueError "reflectlite.Value.Elem" 0) ReflectliteValue.elem #[.agg #[.pointer (some ⟨11, 106, none⟩), .pointer (some a), .int .u64 150]]).run Tryd.prog W
      = .ok (.agg #[.pointer (some ⟨11, 104, none⟩), .pointer (some p), .int .u64 406]) W := by
  rw [rlm]
  simp only [Sem.run_bind, Tryd.parts27, Result.andThen]
  simp [ReflectliteValue.elem, loadVar, isAgg, underlying, Tryd.underlying106, ha, Result.andThen, Tryd.elemOf27, Tryd.mk25]
theorem rls (v x : Value) : ReflectliteValue.set #[v, x] = (do
    let (some (dst, a, fl), some (src, b, _)) := (← ReflectliteValue.parts v, ← ReflectliteValue.parts x)
      | unsupported (.noEntry "extern/(internal/reflectlite.Value).Set.zeroValue")
    if fl / ReflectliteValue.flagAddr % 2 == 0 then unsupported (.noEntry "extern/(internal/reflectlite.Value).Set.unaddressable")
    let val ← loadVar src b
    if ← Rtype.directlyAssignable dst src then storeVar dst a val
    else if ← Rtype.implements dst src then
      if (← Rtype.kind src) == 20 then
        match val with
        | .nilIface => unsupported (.noEntry "extern/reflectlite: a nil value of one interface type handed on as a value of another")
        | _ => storeVar dst a val
      else storeVar dst a (.iface src val)
    else panicString ("reflectlite.Set: value of type " ++ (← Rtype.spelt src) ++ " is not assignable to type " ++ (← Rtype.spelt dst))
    pure (.tuple #[])) := rfl
theorem Tryd.parts25a (a : Addr) (w : World) : (ReflectliteValue.parts (.agg #[.pointer (some ⟨11, 104, none⟩), .pointer (some a), .int .u64 406])).run Tryd.prog w = .ok (some (104, a, 406)) w := by kernel_rfl
theorem Tryd.parts25 (a : Addr) (w : World) : (ReflectliteValue.parts (.agg #[.pointer (some ⟨11, 104, none⟩), .pointer (some a), .int .u64 150])).run Tryd.prog w = .ok (some (104, a, 150)) w := by kernel_rfl
theorem Tryd.direct25 (w : World) : (Rtype.directlyAssignable 104 104).run Tryd.prog w = .ok true w := by kernel_rfl
theorem Tryd.size25 (w : World) : (sizeOf 104).run Tryd.prog w = .ok 1 w := by kernel_rfl
/-- (Value).Set: the *p.E variable at 'ta' gets what the Value's own variable 'b' holds. -/
theorem Tryd.set25 (ta b e : Addr) (old : Value) (W : World) (hb : W.cell? b = some (.pointer (some e))) (ht : W.cell? ta = some old) (hf : W.frozen? ta = false) :
    (ReflectliteValue.set #[.agg #[.pointer (some ⟨11, 104, none⟩), .pointer (some ta), .int .u64 406], .agg #[.pointer (some ⟨11, 104, none⟩), .pointer (some b), .int .u64 150]]).run Tryd.prog W
      = .ok (.tuple #[]) (W.setCell ta (.pointer (some e))) := by
  rw [rls]
  simp only [Sem.run_bind, Tryd.parts25a, Tryd.parts25, Result.andThen]
  simp [ReflectliteValue.flagAddr, loadVar, isAgg, underlying, Tryd.underlying104, hb, Result.andThen, Tryd.direct25, storeVar, Value.cells, storeCells, Addr.add]
  rw [run_store Tryd.prog W ta _ _ (by rfl)]
  simp [ht, hf]

set_option maxHeartbeats 4000000 in
theorem as_hit (e t : Addr) (old : Value) (w : World) (hg : w.cell? ⟨10, 0, none⟩ = some (.iface 142 (.agg #[.pointer (some ⟨11, 32, none⟩)]))) (ht0 : w.cell? t = some old) (hf0 : w.frozen? t = false) :
    Calls Tryd.prog 51 #[.iface 104 (.pointer (some e)), .iface 106 (.pointer (some t))] w fun ev w' => ev = .returned (.bool true) ∧ w' = ((((w.alloc (.cells #[.pointer (some t)] 106)).alloc (.cells #[.pointer (some ⟨11, 106, none⟩), .pointer (some ⟨w.heap.size, 0, none⟩), .int .u64 150] 129)).alloc (.cells #[.pointer (some ⟨11, 106, none⟩), .pointer (some ⟨w.heap.size, 0, none⟩), .int .u64 150] 129)).alloc (.cells #[.pointer (some e)] 104)).setCell t (.pointer (some e)) := by
  have h6 := @run_callFunc_extern Tryd.prog 65 _ (fun args => ReflectliteValue.unpack (args.getD 0 (.tuple #[]))) Tryd.func65 (by kernel_rfl) (by kernel_rfl) (by kernel_rfl) (by kernel_rfl)
  have h7 := @run_callFunc_extern Tryd.prog 66 _ (ReflectliteValue.methodAny (ReflectliteValue.valueError "reflectlite.Value.Type" 0) (fun t _ _ _ => ReflectliteType.toType t)) Tryd.func66 (by kernel_rfl) (by kernel_rfl) (by kernel_rfl) (by kernel_rfl)
  have h8 := @run_callFunc_extern Tryd.prog 67 _ (ReflectliteValue.method (ReflectliteValue.valueError "reflectlite.Value.IsNil" 0) ReflectliteValue.isNil) Tryd.func67 (by kernel_rfl) (by kernel_rfl) (by kernel_rfl) (by kernel_rfl)
  have h27 := @run_callFunc_extern Tryd.prog 115 _ (ReflectliteType.abiMethod fun t => do pure (.int .u8 (← Rtype.kind t))) Tryd.func115 (by kernel_rfl) (by kernel_rfl) (by kernel_rfl) (by kernel_rfl)
  have h37 := @run_callFunc_extern Tryd.prog 129 _ (ReflectliteType.method ReflectliteType.elem) Tryd.func129 (by kernel_rfl) (by kernel_rfl) (by kernel_rfl) (by kernel_rfl)
  have h38 := @run_callFunc_extern Tryd.prog 130 _ (ReflectliteType.relation "Implements" ReflectliteType.implements_) Tryd.func130 (by kernel_rfl) (by kernel_rfl) (by kernel_rfl) (by kernel_rfl)
  have h10 := @run_callFunc_extern Tryd.prog 69 _ ReflectliteType.typeOf Tryd.func69 (by kernel_rfl) (by kernel_rfl) (by kernel_rfl) (by kernel_rfl)
  have h35 := @run_callFunc_extern Tryd.prog 127 _ (ReflectliteType.relation "AssignableTo" ReflectliteType.assignableTo) Tryd.func127 (by kernel_rfl) (by kernel_rfl) (by kernel_rfl) (by kernel_rfl)
  have h11 := @run_callFunc_extern Tryd.prog 79 _ (ReflectliteValue.method (ReflectliteValue.valueError "reflectlite.Value.Elem" 0) ReflectliteValue.elem) Tryd.func79 (by kernel_rfl) (by kernel_rfl) (by kernel_rfl) (by kernel_rfl)
  have h12 := @run_callFunc_extern Tryd.prog 80 _ ReflectliteValue.set Tryd.func80 (by kernel_rfl) (by kernel_rfl) (by kernel_rfl) (by kernel_rfl)
  have tO := Tryd.typeOf25
  have mA := Tryd.methodAssignableTo
  have a25 := Tryd.assignable25
  have v25 := Tryd.valueOf25
  have f6 := Tryd.valueOf27
  have f7 := Tryd.type27
  have mK := Tryd.methodKind
  have mE := Tryd.methodElem
  have mI := Tryd.methodImplements
  have k27 := Tryd.kind27
  have k25 := Tryd.kind25
  have e27 := Tryd.elem27
  have i25 := Tryd.implements25
  have n8 := Tryd.isNil27 ⟨w.heap.size, 0, none⟩ t ((w.alloc (.cells #[.pointer (some t)] 106)).alloc (.cells #[.pointer (some ⟨11, 106, none⟩), .pointer (some ⟨w.heap.size, 0, none⟩), .int .u64 150] 129)) (by simp)
  have hlt : 10 < w.heap.size := World.block_lt_of_cell? w ⟨10, 0, none⟩ hg
  have hg2 : ((w.alloc (.cells #[.pointer (some t)] 106)).alloc (.cells #[.pointer (some ⟨11, 106, none⟩), .pointer (some ⟨w.heap.size, 0, none⟩), .int .u64 150] 129)).cell? ⟨10, 0, none⟩ = some (.iface 142 (.agg #[.pointer (some ⟨11, 32, none⟩)])) := by
    rw [World.cell?_alloc_lt _ _ ⟨10, 0, none⟩ (by simp; omega), World.cell?_alloc_lt _ _ ⟨10, 0, none⟩ hlt]; exact hg
  have htl : t.block < w.heap.size := by
    rcases Nat.lt_or_ge t.block w.heap.size with h | h
    · exact h
    · simp [World.cell?, Array.getElem?_eq_none h] at ht0
  have el := Tryd.elemV27 ⟨w.heap.size, 0, none⟩ t (((w.alloc (.cells #[.pointer (some t)] 106)).alloc (.cells #[.pointer (some ⟨11, 106, none⟩), .pointer (some ⟨w.heap.size, 0, none⟩), .int .u64 150] 129)).alloc (.cells #[.pointer (some ⟨11, 106, none⟩), .pointer (some ⟨w.heap.size, 0, none⟩), .int .u64 150] 129)) (by rw [World.cell?_alloc_lt _ _ ⟨w.heap.size, 0, none⟩ (by simp; omega)]; simp)
  have st := Tryd.set25 t ⟨w.heap.size + 1 + 1 + 1, 0, none⟩ e old ((((w.alloc (.cells #[.pointer (some t)] 106)).alloc (.cells #[.pointer (some ⟨11, 106, none⟩), .pointer (some ⟨w.heap.size, 0, none⟩), .int .u64 150] 129)).alloc (.cells #[.pointer (some ⟨11, 106, none⟩), .pointer (some ⟨w.heap.size, 0, none⟩), .int .u64 150] 129)).alloc (.cells #[.pointer (some e)] 104))
    (by rw [World.cell?_alloc_at _ _ _ _ (by simp)]; rfl)
    (by rw [World.cell?_alloc_lt _ _ t (by simp; omega), World.cell?_alloc_lt _ _ t (by simp; omega), World.cell?_alloc_lt _ _ t (by simp; omega), World.cell?_alloc_lt _ _ t htl]; exact ht0)
    (by rw [World.frozen?_alloc_old _ _ t (by simp; omega), World.frozen?_alloc_old _ _ t (by simp; omega), World.frozen?_alloc_old _ _ t (by simp; omega), World.frozen?_alloc_old _ _ t (Nat.ne_of_lt htl)]; exact hf0)
  go_enter Tryd.func51, Tryd.ntmps51
  go_wp2
  refine wp_loop_rounds 1 ?_
  rw [rounds_succ]
  go_wp2
  go_ret
  exact ⟨rfl, rfl⟩
end Go.Proofs.YtlbdkcnbgdmpaaaDoor

/- Is -/
/- The contracts of errors.Is at sentinels, and at an *api.Fault of one (turned from the worked example 'sentry'). -/
namespace Go.Proofs.YtlbdkcnbgdmpaaaDoor
open Go.RowKit Go.Extern.Stop Go.Stop Go.Extern
set_option linter.unusedVariables false

/-! ### CLOSED FACTS: what 'reflectlite.TypeOf(target).Comparable()' gives at such a target -/
theorem Tryd.isTypeOf (v : Value) (w : World) : (Extern.ReflectliteType.typeOf #[.iface 173 v]).run Tryd.prog w = .ok (.iface 142 (.agg #[.pointer (some ⟨11, 173, none⟩)])) w := by kernel_rfl
theorem Tryd.isComparable (w : World) : ((Extern.ReflectliteType.method fun t => do Extern.Rtype.noPackHeld "Comparable" t; (fun a => Value.bool a.comparable) <$> typeInfo t) #[.agg #[.pointer (some ⟨11, 173, none⟩)]]).run Tryd.prog w = .ok (.bool true) w := by kernel_rfl
theorem Tryd.isMethodComparable (v : Value) (w : World) : (Go.method 306 142 v "Comparable").run Tryd.prog w = .ok (128, v) w := by kernel_rfl
theorem Tryd.isComp : (Tryd.prog.info? 173).map (·.comparable) = some true := by kernel_rfl
theorem Tryd.isSize : (Tryd.prog.info? 194).map (·.size) = some 1 := by kernel_rfl

/-! ### CLOSED FACTS ON THE METHOD SETS: what errors.is's assertions find -/
theorem Tryd.noIsE (v : Value) (xT : TypeId) (w : World) : (Instr.typeAssert (.iface 173 v) xT 153 true).run Tryd.prog w = .ok (.tuple #[.nilIface, .bool false]) w := run_typeAssert_lacksB Tryd.underlying153 (by kernel_rfl) (by kernel_rfl) v xT w
theorem Tryd.noUnwrapE (v : Value) (xT : TypeId) (w : World) : (Instr.typeAssert (.iface 173 v) xT 149 true).run Tryd.prog w = .ok (.tuple #[.nilIface, .bool false]) w := run_typeAssert_lacksB Tryd.underlying149 (by kernel_rfl) (by kernel_rfl) v xT w
theorem Tryd.noUnwrapsE (v : Value) (xT : TypeId) (w : World) : (Instr.typeAssert (.iface 173 v) xT 151 true).run Tryd.prog w = .ok (.tuple #[.nilIface, .bool false]) w := run_typeAssert_lacksB Tryd.underlying151 (by kernel_rfl) (by kernel_rfl) v xT w
theorem Tryd.noIsW (v : Value) (xT : TypeId) (w : World) : (Instr.typeAssert (.iface 104 v) xT 153 true).run Tryd.prog w = .ok (.tuple #[.nilIface, .bool false]) w := run_typeAssert_lacksB Tryd.underlying153 (by kernel_rfl) (by kernel_rfl) v xT w
theorem Tryd.hasUnwrapW (v : Value) (xT : TypeId) (w : World) : (Instr.typeAssert (.iface 104 v) xT 149 true).run Tryd.prog w = .ok (.tuple #[.iface 104 v, .bool true]) w := run_typeAssert_hasB Tryd.underlying149 (by kernel_rfl) v xT w
theorem Tryd.methodUnwrap (v : Value) (w : World) : (Go.method 306 104 v "Unwrap").run Tryd.prog w = .ok (122, v) w := by kernel_rfl

set_option maxRecDepth 100000 in
/-- errors.Is(x, x), x a pointer to an errors.errorString. -/
theorem is_same (a : Addr) (w : World) :
    Calls Tryd.prog 52 #[.iface 173 (.pointer (some a)), .iface 173 (.pointer (some a))] w fun e w' => e = .returned (.bool true) ∧ w' = w := by
  obtain ⟨i, hi, hcmp⟩ := Option.map_eq_some_iff.1 Tryd.isComp
  obtain ⟨j, hj, hjs⟩ := Option.map_eq_some_iff.1 Tryd.isSize
  have h8 := @run_callFunc_extern Tryd.prog 69 _ Extern.ReflectliteType.typeOf Tryd.func69 (by kernel_rfl) (by kernel_rfl) (by kernel_rfl) (by kernel_rfl)
  have h32 := @run_callFunc_extern Tryd.prog 128 _ (Extern.ReflectliteType.method fun t => do Extern.Rtype.noPackHeld "Comparable" t; pure (.bool (← typeInfo t).comparable)) Tryd.func128 (by kernel_rfl) (by kernel_rfl) (by kernel_rfl) (by kernel_rfl)
  have tT := Tryd.isTypeOf
  have cT := Tryd.isComparable
  have mR := Tryd.isMethodComparable
  have heq := run_eql_iface_ptr_same (P := Tryd.prog) w a Tryd.underlying32 Tryd.underlying173 hi hcmp hj
  go_enter Tryd.func52, Tryd.ntmps52
  go_wp2
  refine wp_loop_rounds 1 ?_
  rw [rounds_succ]
  go_wp2
  go_ret
  exact ⟨rfl, rfl⟩

set_option maxRecDepth 100000 in
/-- errors.Is(x, y), two different pointers to errors.errorString: neither has Is nor Unwrap: false. -/
theorem is_other (a b : Addr) (ca cb : Array Value) (ta tb : TypeId) (w : World) (hne : a ≠ b) (ha : w.heap[a.block]? = some (.cells ca ta (0, 0))) (hb : w.heap[b.block]? = some (.cells cb tb (0, 0))) :
    Calls Tryd.prog 52 #[.iface 173 (.pointer (some a)), .iface 173 (.pointer (some b))] w fun e w' => e = .returned (.bool false) ∧ w' = w := by
  obtain ⟨i, hi, hcmp⟩ := Option.map_eq_some_iff.1 Tryd.isComp
  obtain ⟨j, hj, hjs⟩ := Option.map_eq_some_iff.1 Tryd.isSize
  have h8 := @run_callFunc_extern Tryd.prog 69 _ Extern.ReflectliteType.typeOf Tryd.func69 (by kernel_rfl) (by kernel_rfl) (by kernel_rfl) (by kernel_rfl)
  have h32 := @run_callFunc_extern Tryd.prog 128 _ (Extern.ReflectliteType.method fun t => do Extern.Rtype.noPackHeld "Comparable" t; pure (.bool (← typeInfo t).comparable)) Tryd.func128 (by kernel_rfl) (by kernel_rfl) (by kernel_rfl) (by kernel_rfl)
  have tT := Tryd.isTypeOf
  have cT := Tryd.isComparable
  have mR := Tryd.isMethodComparable
  have nE := Tryd.noIsE
  have uE := Tryd.noUnwrapE
  have vE := Tryd.noUnwrapsE
  have nW := Tryd.noIsW
  have uW := Tryd.hasUnwrapW
  have mU := Tryd.methodUnwrap
  have heq := run_eql_iface_ptr_other (P := Tryd.prog) w Tryd.underlying32 Tryd.underlying173 hi hcmp hj (by rw [hjs]; decide) hne ha hb
  go_enter Tryd.func52, Tryd.ntmps52
  go_wp2
  refine wp_loop_rounds 1 ?_
  rw [rounds_succ]
  go_wp2
  go_ret
  exact ⟨rfl, rfl⟩

set_option maxRecDepth 100000 in
/-- errors.Is(e, x), e a *api.Fault that wraps x itself: one Unwrap, then equal. -/
theorem is_wrap_same (pb po : Nat) (b : Addr) (w : World) (h1 : w.cell? ⟨pb, po + 1, none⟩ = some (.iface 173 (.pointer (some b)))) :
    Calls Tryd.prog 52 #[.iface 104 (.pointer (some ⟨pb, po, none⟩)), .iface 173 (.pointer (some b))] w fun e w' => e = .returned (.bool true) ∧ w' = w := by
  obtain ⟨i, hi, hcmp⟩ := Option.map_eq_some_iff.1 Tryd.isComp
  obtain ⟨j, hj, hjs⟩ := Option.map_eq_some_iff.1 Tryd.isSize
  have h8 := @run_callFunc_extern Tryd.prog 69 _ Extern.ReflectliteType.typeOf Tryd.func69 (by kernel_rfl) (by kernel_rfl) (by kernel_rfl) (by kernel_rfl)
  have h32 := @run_callFunc_extern Tryd.prog 128 _ (Extern.ReflectliteType.method fun t => do Extern.Rtype.noPackHeld "Comparable" t; pure (.bool (← typeInfo t).comparable)) Tryd.func128 (by kernel_rfl) (by kernel_rfl) (by kernel_rfl) (by kernel_rfl)
  have tT := Tryd.isTypeOf
  have cT := Tryd.isComparable
  have mR := Tryd.isMethodComparable
  have nE := Tryd.noIsE
  have uE := Tryd.noUnwrapE
  have vE := Tryd.noUnwrapsE
  have nW := Tryd.noIsW
  have uW := Tryd.hasUnwrapW
  have mU := Tryd.methodUnwrap
  have heq := run_eql_iface_ptr_same (P := Tryd.prog) w b Tryd.underlying32 Tryd.underlying173 hi hcmp hj
  have hty := run_eql_iface_types (P := Tryd.prog) 104 173 (.pointer (some ⟨pb, po, none⟩)) (.pointer (some b)) Tryd.underlying32 (by decide) w
  go_enter Tryd.func52, Tryd.ntmps52
  go_wp2
  refine wp_loop_rounds 2 ?_
  rw [rounds_succ]
  go_wp2
  rw [rounds_succ]
  go_wp2
  go_ret
  exact ⟨rfl, rfl⟩

set_option maxRecDepth 100000 in
/-- errors.Is(e, x), e a *api.Fault that wraps another error of errors.New's make. -/
theorem is_wrap_other (pb po : Nat) (b a : Addr) (ca cb : Array Value) (ta tb : TypeId) (w : World) (h1 : w.cell? ⟨pb, po + 1, none⟩ = some (.iface 173 (.pointer (some a)))) (hne : a ≠ b) (ha : w.heap[a.block]? = some (.cells ca ta (0, 0))) (hb : w.heap[b.block]? = some (.cells cb tb (0, 0))) :
    Calls Tryd.prog 52 #[.iface 104 (.pointer (some ⟨pb, po, none⟩)), .iface 173 (.pointer (some b))] w fun e w' => e = .returned (.bool false) ∧ w' = w := by
  obtain ⟨i, hi, hcmp⟩ := Option.map_eq_some_iff.1 Tryd.isComp
  obtain ⟨j, hj, hjs⟩ := Option.map_eq_some_iff.1 Tryd.isSize
  have h8 := @run_callFunc_extern Tryd.prog 69 _ Extern.ReflectliteType.typeOf Tryd.func69 (by kernel_rfl) (by kernel_rfl) (by kernel_rfl) (by kernel_rfl)
  have h32 := @run_callFunc_extern Tryd.prog 128 _ (Extern.ReflectliteType.method fun t => do Extern.Rtype.noPackHeld "Comparable" t; pure (.bool (← typeInfo t).comparable)) Tryd.func128 (by kernel_rfl) (by kernel_rfl) (by kernel_rfl) (by kernel_rfl)
  have tT := Tryd.isTypeOf
  have cT := Tryd.isComparable
  have mR := Tryd.isMethodComparable
  have nE := Tryd.noIsE
  have uE := Tryd.noUnwrapE
  have vE := Tryd.noUnwrapsE
  have nW := Tryd.noIsW
  have uW := Tryd.hasUnwrapW
  have mU := Tryd.methodUnwrap
  have heq := run_eql_iface_ptr_other (P := Tryd.prog) w Tryd.underlying32 Tryd.underlying173 hi hcmp hj (by rw [hjs]; decide) hne ha hb
  have hty := run_eql_iface_types (P := Tryd.prog) 104 173 (.pointer (some ⟨pb, po, none⟩)) (.pointer (some b)) Tryd.underlying32 (by decide) w
  go_enter Tryd.func52, Tryd.ntmps52
  go_wp2
  refine wp_loop_rounds 2 ?_
  rw [rounds_succ]
  go_wp2
  rw [rounds_succ]
  go_wp2
  go_ret
  exact ⟨rfl, rfl⟩

end Go.Proofs.YtlbdkcnbgdmpaaaDoor

/- AsMiss -/
/- errors.As at '**api.Fault' where the error is of errors.New's make: false. -/
namespace Go.Proofs.YtlbdkcnbgdmpaaaDoor
open Go.RowKit Go.Extern.Stop Go.Stop Go.Extern
set_option linter.unusedVariables false

theorem Tryd.assignableE (w : World) : (ReflectliteType.relation "AssignableTo" ReflectliteType.assignableTo #[.agg #[.pointer (some ⟨11, 173, none⟩)], .iface 142 (.agg #[.pointer (some ⟨11, 104, none⟩)])]).run Tryd.prog w = .ok (.bool false) w := by kernel_rfl
theorem Tryd.noAsE (v : Value) (xT : TypeId) (w : World) : (Instr.typeAssert (.iface 173 v) xT 146 true).run Tryd.prog w = .ok (.tuple #[.nilIface, .bool false]) w := run_typeAssert_lacksB Tryd.underlying146 (by kernel_rfl) (by kernel_rfl) v xT w

set_option maxHeartbeats 4000000 in
theorem as_miss (e t : Addr) (old : Value) (w : World) (hg : w.cell? ⟨10, 0, none⟩ = some (.iface 142 (.agg #[.pointer (some ⟨11, 32, none⟩)]))) (ht0 : w.cell? t = some old) (hf0 : w.frozen? t = false) :
    Calls Tryd.prog 51 #[.iface 173 (.pointer (some e)), .iface 106 (.pointer (some t))] w fun ev w' => ev = .returned (.bool false) ∧ w' = (((w.alloc (.cells #[.pointer (some t)] 106)).alloc (.cells #[.pointer (some ⟨11, 106, none⟩), .pointer (some ⟨w.heap.size, 0, none⟩), .int .u64 150] 129)).alloc (.cells #[.pointer (some ⟨11, 106, none⟩), .pointer (some ⟨w.heap.size, 0, none⟩), .int .u64 150] 129)) := by
  have h6 := @run_callFunc_extern Tryd.prog 65 _ (fun args => ReflectliteValue.unpack (args.getD 0 (.tuple #[]))) Tryd.func65 (by kernel_rfl) (by kernel_rfl) (by kernel_rfl) (by kernel_rfl)
  have h7 := @run_callFunc_extern Tryd.prog 66 _ (ReflectliteValue.methodAny (ReflectliteValue.valueError "reflectlite.Value.Type" 0) (fun t _ _ _ => ReflectliteType.toType t)) Tryd.func66 (by kernel_rfl) (by kernel_rfl) (by kernel_rfl) (by kernel_rfl)
  have h8 := @run_callFunc_extern Tryd.prog 67 _ (ReflectliteValue.method (ReflectliteValue.valueError "reflectlite.Value.IsNil" 0) ReflectliteValue.isNil) Tryd.func67 (by kernel_rfl) (by kernel_rfl) (by kernel_rfl) (by kernel_rfl)
  have h27 := @run_callFunc_extern Tryd.prog 115 _ (ReflectliteType.abiMethod fun t => do pure (.int .u8 (← Rtype.kind t))) Tryd.func115 (by kernel_rfl) (by kernel_rfl) (by kernel_rfl) (by kernel_rfl)
  have h37 := @run_callFunc_extern Tryd.prog 129 _ (ReflectliteType.method ReflectliteType.elem) Tryd.func129 (by kernel_rfl) (by kernel_rfl) (by kernel_rfl) (by kernel_rfl)
  have h38 := @run_callFunc_extern Tryd.prog 130 _ (ReflectliteType.relation "Implements" ReflectliteType.implements_) Tryd.func130 (by kernel_rfl) (by kernel_rfl) (by kernel_rfl) (by kernel_rfl)
  have h10 := @run_callFunc_extern Tryd.prog 69 _ ReflectliteType.typeOf Tryd.func69 (by kernel_rfl) (by kernel_rfl) (by kernel_rfl) (by kernel_rfl)
  have h35 := @run_callFunc_extern Tryd.prog 127 _ (ReflectliteType.relation "AssignableTo" ReflectliteType.assignableTo) Tryd.func127 (by kernel_rfl) (by kernel_rfl) (by kernel_rfl) (by kernel_rfl)
  have h11 := @run_callFunc_extern Tryd.prog 79 _ (ReflectliteValue.method (ReflectliteValue.valueError "reflectlite.Value.Elem" 0) ReflectliteValue.elem) Tryd.func79 (by kernel_rfl) (by kernel_rfl) (by kernel_rfl) (by kernel_rfl)
  have h12 := @run_callFunc_extern Tryd.prog 80 _ ReflectliteValue.set Tryd.func80 (by kernel_rfl) (by kernel_rfl) (by kernel_rfl) (by kernel_rfl)
  have tO := Tryd.isTypeOf
  have nA := Tryd.noAsE
  have nU := Tryd.noUnwrapE
  have nV := Tryd.noUnwrapsE
  have mA := Tryd.methodAssignableTo
  have a25 := Tryd.assignableE
  have f6 := Tryd.valueOf27
  have f7 := Tryd.type27
  have mK := Tryd.methodKind
  have mE := Tryd.methodElem
  have mI := Tryd.methodImplements
  have k27 := Tryd.kind27
  have k25 := Tryd.kind25
  have e27 := Tryd.elem27
  have i25 := Tryd.implements25
  have n8 := Tryd.isNil27 ⟨w.heap.size, 0, none⟩ t ((w.alloc (.cells #[.pointer (some t)] 106)).alloc (.cells #[.pointer (some ⟨11, 106, none⟩), .pointer (some ⟨w.heap.size, 0, none⟩), .int .u64 150] 129)) (by simp)
  have hlt : 10 < w.heap.size := World.block_lt_of_cell? w ⟨10, 0, none⟩ hg
  have hg2 : ((w.alloc (.cells #[.pointer (some t)] 106)).alloc (.cells #[.pointer (some ⟨11, 106, none⟩), .pointer (some ⟨w.heap.size, 0, none⟩), .int .u64 150] 129)).cell? ⟨10, 0, none⟩ = some (.iface 142 (.agg #[.pointer (some ⟨11, 32, none⟩)])) := by
    rw [World.cell?_alloc_lt _ _ ⟨10, 0, none⟩ (by simp; omega), World.cell?_alloc_lt _ _ ⟨10, 0, none⟩ hlt]; exact hg
  have htl : t.block < w.heap.size := by
    rcases Nat.lt_or_ge t.block w.heap.size with h | h
    · exact h
    · simp [World.cell?, Array.getElem?_eq_none h] at ht0
  go_enter Tryd.func51, Tryd.ntmps51
  go_wp2
  refine wp_loop_rounds 1 ?_
  rw [rounds_succ]
  go_wp2
  go_ret
  exact ⟨rfl, rfl⟩
end Go.Proofs.YtlbdkcnbgdmpaaaDoor

/- Code -/
/- The walk of plain.Code. -/
namespace Go.Proofs.YtlbdkcnbgdmpaaaDoor
open Go.RowKit Go.Deep
set_option linter.unusedVariables false

/-- the variable of an error's number -/
def gOf : Nat → Nat
  | 1 => 5
  | 2 => 1
  | 3 => 0
  | 4 => 6
  | 5 => 7
  | 6 => 4
  | 7 => 8
  | 8 => 9
  | 9 => 2
  | _ => 3
/-- all ten errors as they lie, and the handle that errors.As looks at -/
structure ErrsAll (w : World) (ea : Nat → Addr) : Prop where
  cell : ∀ c, 1 ≤ c → c ≤ 10 → w.cell? ⟨gOf c, 0, none⟩ = some (errV ea c)
  block : ∀ c, 1 ≤ c → c ≤ 10 → ∃ cs t, w.heap[(ea c).block]? = some (.cells cs t (0, 0))
  ne : ∀ c d, 1 ≤ c → c ≤ 10 → 1 ≤ d → d ≤ 10 → c ≠ d → ea c ≠ ea d
  type : w.cell? ⟨10, 0, none⟩ = some (.iface 142 (.agg #[.pointer (some ⟨11, 32, none⟩)]))
theorem ErrsAll.three {w : World} {ea : Nat → Addr} (E : ErrsAll w ea) : Errs3 w ea := ⟨E.cell 3 (by omega) (by omega), E.cell 9 (by omega) (by omega), E.cell 10 (by omega) (by omega)⟩
theorem ErrsAll.keep {w w' : World} {ea : Nat → Addr} {S : Nat → Prop} (E : ErrsAll w ea) (k : Keeps S w w') (hS : ∀ b, b < 11 → ¬ S b) (h : ∀ c, 1 ≤ c → c ≤ 10 → ¬ S (ea c).block) : ErrsAll w' ea where
  cell := fun c h1 h2 => k.cell' (E.cell c h1 h2) (hS _ (by
    have : c = 1 ∨ c = 2 ∨ c = 3 ∨ c = 4 ∨ c = 5 ∨ c = 6 ∨ c = 7 ∨ c = 8 ∨ c = 9 ∨ c = 10 := by omega
    rcases this with rfl | rfl | rfl | rfl | rfl | rfl | rfl | rfl | rfl | rfl <;> decide))
  block := fun c h1 h2 => by
    obtain ⟨cs, t, hb⟩ := E.block c h1 h2
    exact ⟨cs, t, (k.block _ (Array.getElem?_eq_some_iff.1 hb).1 (h c h1 h2)).trans hb⟩
  ne := E.ne
  type := k.cell' E.type (hS _ (by decide))
theorem ErrsAll.quiet {w w' : World} {ea : Nat → Addr} (E : ErrsAll w ea) (k : Keeps (fun _ => False) w w') : ErrsAll w' ea := E.keep k (fun _ _ h => h) (fun _ _ _ h => h)

theorem code_nil (w : World) :
    Calls Tryd.prog 38 #[.nilIface] w fun e w' => e = .returned (.tuple #[.int .i64 0, .int .i64 (-1)]) ∧ w = w' := by
  go_enter Tryd.func38, Tryd.ntmps38
  go_wp2_with fail
  go_ret2
  exact ⟨rfl, rfl⟩

theorem cell_set {w : World} {b o : Nat} {old v : Value} {T : TypeId} {cs : Array Value} {fz : Nat × Nat} (h : w.heap[b]? = some (.cells cs T fz)) (ho : o < cs.size) : (w.setCell ⟨b, o, none⟩ v).cell? ⟨b, o, none⟩ = some v := by
  have h2 : (w.setCell ⟨b, o, none⟩ v).heap[b]? = some (.cells (cs.setIfInBounds o v) T fz) := by simp [World.setCell, Array.getElem?_modify, h]
  unfold World.cell?
  rw [h2]
  simp [ho]
/-- the ten errors in a row -/
theorem ten_cells (w : World) (ea : Nat → Addr) (T : TypeId) (i : Nat) (hi : i < 10) :
    (w.alloc (.cells #[.iface 173 (.pointer (some (ea 1))), .iface 173 (.pointer (some (ea 2))), .iface 173 (.pointer (some (ea 3))), .iface 173 (.pointer (some (ea 4))), .iface 173 (.pointer (some (ea 5))), .iface 173 (.pointer (some (ea 6))), .iface 173 (.pointer (some (ea 7))), .iface 173 (.pointer (some (ea 8))), .iface 173 (.pointer (some (ea 9))), .iface 173 (.pointer (some (ea 10)))] T)).cell? ⟨w.heap.size, i, none⟩ = some (.iface 173 (.pointer (some (ea (i + 1))))) := by
  unfold World.cell?
  rw [blk_alloc_new]
  have : i = 0 ∨ i = 1 ∨ i = 2 ∨ i = 3 ∨ i = 4 ∨ i = 5 ∨ i = 6 ∨ i = 7 ∨ i = 8 ∨ i = 9 := by omega
  rcases this with rfl | rfl | rfl | rfl | rfl | rfl | rfl | rfl | rfl | rfl <;> rfl

set_option maxRecDepth 100000 in
set_option maxHeartbeats 2000000 in
theorem code_sent (c : Nat) (h1 : 1 ≤ c) (h2 : c ≤ 10) (w : World) (ea : Nat → Addr) (E : ErrsAll w ea) :
    Calls Tryd.prog 38 #[errV ea c] w fun e w' => e = .returned (.tuple #[.int .i64 c, .int .i64 (-1)]) ∧ Keeps (fun _ => False) w w' := by
  have K0 := (Keeps.refl (fun _ => False) w).alloc (.cells #[.pointer none] 104)
  have ht0 : (w.alloc (.cells #[.pointer none] 104)).cell? ⟨w.heap.size, 0, none⟩ = some (.pointer none) := by simp
  unfold errV
  go_enter Tryd.func38, Tryd.ntmps38
  go_wp2_with fail
  refine (as_miss _ _ _ _ (E.quiet K0).type ht0 (by simp)).mono ?_
  rintro e w3 ⟨rfl, hw3⟩
  have K3 : Keeps (fun _ => False) w w3 := by rw [hw3]; exact ((K0.alloc _).alloc _).alloc _
  clear hw3 ht0 K0
  have E3 := E.quiet K3
  have g1 : w3.cell? ⟨gOf 1, 0, none⟩ = some (.iface 173 (.pointer (some (ea 1)))) := E3.cell 1 (by omega) (by omega)
  have g2 : w3.cell? ⟨gOf 2, 0, none⟩ = some (.iface 173 (.pointer (some (ea 2)))) := E3.cell 2 (by omega) (by omega)
  have g3 : w3.cell? ⟨gOf 3, 0, none⟩ = some (.iface 173 (.pointer (some (ea 3)))) := E3.cell 3 (by omega) (by omega)
  have g4 : w3.cell? ⟨gOf 4, 0, none⟩ = some (.iface 173 (.pointer (some (ea 4)))) := E3.cell 4 (by omega) (by omega)
  have g5 : w3.cell? ⟨gOf 5, 0, none⟩ = some (.iface 173 (.pointer (some (ea 5)))) := E3.cell 5 (by omega) (by omega)
  have g6 : w3.cell? ⟨gOf 6, 0, none⟩ = some (.iface 173 (.pointer (some (ea 6)))) := E3.cell 6 (by omega) (by omega)
  have g7 : w3.cell? ⟨gOf 7, 0, none⟩ = some (.iface 173 (.pointer (some (ea 7)))) := E3.cell 7 (by omega) (by omega)
  have g8 : w3.cell? ⟨gOf 8, 0, none⟩ = some (.iface 173 (.pointer (some (ea 8)))) := E3.cell 8 (by omega) (by omega)
  have g9 : w3.cell? ⟨gOf 9, 0, none⟩ = some (.iface 173 (.pointer (some (ea 9)))) := E3.cell 9 (by omega) (by omega)
  have g10 : w3.cell? ⟨gOf 10, 0, none⟩ = some (.iface 173 (.pointer (some (ea 10)))) := E3.cell 10 (by omega) (by omega)
  simp only [gOf] at g1 g2 g3 g4 g5 g6 g7 g8 g9 g10
  have hten := fun i hi => ten_cells w3 ea 32 i hi
  go_wp2_with fail
  have K4 := K3.alloc (.cells #[.iface 173 (.pointer (some (ea 1))), .iface 173 (.pointer (some (ea 2))), .iface 173 (.pointer (some (ea 3))), .iface 173 (.pointer (some (ea 4))), .iface 173 (.pointer (some (ea 5))), .iface 173 (.pointer (some (ea 6))), .iface 173 (.pointer (some (ea 7))), .iface 173 (.pointer (some (ea 8))), .iface 173 (.pointer (some (ea 9))), .iface 173 (.pointer (some (ea 10)))] 32)
  generalize w3.alloc (.cells #[.iface 173 (.pointer (some (ea 1))), .iface 173 (.pointer (some (ea 2))), .iface 173 (.pointer (some (ea 3))), .iface 173 (.pointer (some (ea 4))), .iface 173 (.pointer (some (ea 5))), .iface 173 (.pointer (some (ea 6))), .iface 173 (.pointer (some (ea 7))), .iface 173 (.pointer (some (ea 8))), .iface 173 (.pointer (some (ea 9))), .iface 173 (.pointer (some (ea 10)))] 32) = w4 at *
  generalize w3.heap.size = B at *
  have E4 := E.quiet K4
  clear g1 g2 g3 g4 g5 g6 g7 g8 g9 g10 E3 K3
  go_loop [3, 28] (fun s3 s28 => s3 = .int .i64 (-1) ∧ ∃ i : Nat, i < c ∧ s28 = .int .i64 i) (fun _ s28 => 10 - (intOf s28).toNat)
  case atStart => exact ⟨rfl, 0, by omega, rfl⟩
  case round =>
    obtain ⟨rfl, i, hi, rfl⟩ := hrel
    have hc := hten i (by omega)
    by_cases hic : i + 1 = c
    · subst hic
      go_wp2_with fail
      refine (is_same _ _).mono ?_
      rintro e w' ⟨rfl, rfl⟩
      go_wp2_with fail
      go_ret2
      exact ⟨rfl, K4⟩
    · obtain ⟨ca, ta, hba⟩ := E4.block c h1 h2
      obtain ⟨cb, tb, hbb⟩ := E4.block (i + 1) (by omega) (by omega)
      go_wp2_with fail
      refine (is_other _ _ _ _ _ _ _ (E.ne c (i + 1) h1 h2 (by omega) (by omega) (fun h => hic h.symm)) hba hbb).mono ?_
      rintro e w' ⟨rfl, rfl⟩
      go_wp2_with fail
      go_round
      case rel => exact ⟨rfl, i + 1, by omega, by go_num⟩
      case measure => simp [intOf]; omega

set_option maxRecDepth 100000 in
set_option maxHeartbeats 2000000 in
theorem code_fault (c : Nat) (h1 : 1 ≤ c) (h2 : c ≤ 10) (b : Nat) (at_ : Int) (w : World) (ea : Nat → Addr) (E : ErrsAll w ea) (hb0 : w.cell? ⟨b, 0, none⟩ = some (.int .i64 at_)) (hb1 : w.cell? ⟨b, 1, none⟩ = some (errV ea c)) :
    Calls Tryd.prog 38 #[.iface 104 (.pointer (some ⟨b, 0, none⟩))] w fun e w' => e = .returned (.tuple #[.int .i64 c, .int .i64 at_]) ∧ Keeps (fun _ => False) w w' := by
  have K0 := (Keeps.refl (fun _ => False) w).alloc (.cells #[.pointer none] 104)
  have ht0 : (w.alloc (.cells #[.pointer none] 104)).cell? ⟨w.heap.size, 0, none⟩ = some (.pointer none) := by simp
  unfold errV at hb1
  go_enter Tryd.func38, Tryd.ntmps38
  go_wp2_with fail
  refine (as_hit _ _ _ _ (E.quiet K0).type ht0 (by simp)).mono ?_
  rintro e w3 ⟨rfl, hw3⟩
  have K3 : Keeps (fun _ => False) w w3 := by rw [hw3]; exact ((((K0.alloc _).alloc _).alloc _).alloc _).setCell (a := ⟨w.heap.size, 0, none⟩) (fun h => absurd h (Nat.lt_irrefl _)) _
  have hf3 : w3.cell? ⟨w.heap.size, 0, none⟩ = some (.pointer (some ⟨b, 0, none⟩)) := by
    have hz := blk_alloc_new w (.cells #[.pointer none] 104)
    have hl : w.heap.size < (w.alloc (.cells #[.pointer none] 104)).heap.size := (Array.getElem?_eq_some_iff.1 hz).1
    have kk : ∀ o1 o2 o3 o4, Keeps (fun _ => False) (w.alloc (.cells #[.pointer none] 104)) (((((w.alloc (.cells #[.pointer none] 104)).alloc o1).alloc o2).alloc o3).alloc o4) := fun o1 o2 o3 o4 => ((((Keeps.refl _ _).alloc o1).alloc o2).alloc o3).alloc o4
    rw [hw3]
    exact cell_set (old := .nilIface) (((kk _ _ _ _).block _ hl (fun h => h)).trans hz) (by simp)
  have hd0 := K3.cell' hb0 (fun h => h)
  have hd1 := K3.cell' hb1 (fun h => h)
  clear hw3 ht0 K0
  have E3 := E.quiet K3
  have g1 : w3.cell? ⟨gOf 1, 0, none⟩ = some (.iface 173 (.pointer (some (ea 1)))) := E3.cell 1 (by omega) (by omega)
  have g2 : w3.cell? ⟨gOf 2, 0, none⟩ = some (.iface 173 (.pointer (some (ea 2)))) := E3.cell 2 (by omega) (by omega)
  have g3 : w3.cell? ⟨gOf 3, 0, none⟩ = some (.iface 173 (.pointer (some (ea 3)))) := E3.cell 3 (by omega) (by omega)
  have g4 : w3.cell? ⟨gOf 4, 0, none⟩ = some (.iface 173 (.pointer (some (ea 4)))) := E3.cell 4 (by omega) (by omega)
  have g5 : w3.cell? ⟨gOf 5, 0, none⟩ = some (.iface 173 (.pointer (some (ea 5)))) := E3.cell 5 (by omega) (by omega)
  have g6 : w3.cell? ⟨gOf 6, 0, none⟩ = some (.iface 173 (.pointer (some (ea 6)))) := E3.cell 6 (by omega) (by omega)
  have g7 : w3.cell? ⟨gOf 7, 0, none⟩ = some (.iface 173 (.pointer (some (ea 7)))) := E3.cell 7 (by omega) (by omega)
  have g8 : w3.cell? ⟨gOf 8, 0, none⟩ = some (.iface 173 (.pointer (some (ea 8)))) := E3.cell 8 (by omega) (by omega)
  have g9 : w3.cell? ⟨gOf 9, 0, none⟩ = some (.iface 173 (.pointer (some (ea 9)))) := E3.cell 9 (by omega) (by omega)
  have g10 : w3.cell? ⟨gOf 10, 0, none⟩ = some (.iface 173 (.pointer (some (ea 10)))) := E3.cell 10 (by omega) (by omega)
  simp only [gOf] at g1 g2 g3 g4 g5 g6 g7 g8 g9 g10
  have hten := fun i hi => ten_cells w3 ea 32 i hi
  go_wp2_with fail
  have K4 := K3.alloc (.cells #[.iface 173 (.pointer (some (ea 1))), .iface 173 (.pointer (some (ea 2))), .iface 173 (.pointer (some (ea 3))), .iface 173 (.pointer (some (ea 4))), .iface 173 (.pointer (some (ea 5))), .iface 173 (.pointer (some (ea 6))), .iface 173 (.pointer (some (ea 7))), .iface 173 (.pointer (some (ea 8))), .iface 173 (.pointer (some (ea 9))), .iface 173 (.pointer (some (ea 10)))] 32)
  generalize w3.alloc (.cells #[.iface 173 (.pointer (some (ea 1))), .iface 173 (.pointer (some (ea 2))), .iface 173 (.pointer (some (ea 3))), .iface 173 (.pointer (some (ea 4))), .iface 173 (.pointer (some (ea 5))), .iface 173 (.pointer (some (ea 6))), .iface 173 (.pointer (some (ea 7))), .iface 173 (.pointer (some (ea 8))), .iface 173 (.pointer (some (ea 9))), .iface 173 (.pointer (some (ea 10)))] 32) = w4 at *
  generalize w3.heap.size = B at *
  have E4 := E.quiet K4
  have hd4 := K4.cell' hb1 (fun h => h)
  clear hd0 hd1 g1 g2 g3 g4 g5 g6 g7 g8 g9 g10 E3 K3
  go_loop [3, 28] (fun s3 s28 => s3 = .int .i64 at_ ∧ ∃ i : Nat, i < c ∧ s28 = .int .i64 i) (fun _ s28 => 10 - (intOf s28).toNat)
  case atStart => exact ⟨rfl, 0, by omega, rfl⟩
  case round =>
    obtain ⟨rfl, i, hi, rfl⟩ := hrel
    have hc := hten i (by omega)
    by_cases hic : i + 1 = c
    · subst hic
      go_wp2_with fail
      refine (is_wrap_same b 0 _ _ hd4).mono ?_
      rintro e w' ⟨rfl, rfl⟩
      go_wp2_with fail
      go_ret2
      exact ⟨rfl, K4⟩
    · obtain ⟨ca, ta, hba⟩ := E4.block c h1 h2
      obtain ⟨cb, tb, hbb⟩ := E4.block (i + 1) (by omega) (by omega)
      go_wp2_with fail
      refine (is_wrap_other b 0 _ _ _ _ _ _ _ hd4 (E.ne c (i + 1) h1 h2 (by omega) (by omega) (fun h => hic h.symm)) hba hbb).mono ?_
      rintro e w' ⟨rfl, rfl⟩
      go_wp2_with fail
      go_round
      case rel => exact ⟨rfl, i + 1, by omega, by go_num⟩
      case measure => simp [intOf]; omega

set_option maxRecDepth 100000 in
set_option maxHeartbeats 2000000 in
theorem code_other (a : Addr) (ca : Array Value) (ta : TypeId) (w : World) (ea : Nat → Addr) (E : ErrsAll w ea) (hne : ∀ c, 1 ≤ c → c ≤ 10 → a ≠ ea c) (hba : w.heap[a.block]? = some (.cells ca ta (0, 0))) :
    Calls Tryd.prog 38 #[.iface 173 (.pointer (some a))] w fun e w' => e = .returned (.tuple #[.int .i64 (-1), .int .i64 (-1)]) ∧ Keeps (fun _ => False) w w' := by
  have K0 := (Keeps.refl (fun _ => False) w).alloc (.cells #[.pointer none] 104)
  have ht0 : (w.alloc (.cells #[.pointer none] 104)).cell? ⟨w.heap.size, 0, none⟩ = some (.pointer none) := by simp
  go_enter Tryd.func38, Tryd.ntmps38
  go_wp2_with fail
  refine (as_miss _ _ _ _ (E.quiet K0).type ht0 (by simp)).mono ?_
  rintro e w3 ⟨rfl, hw3⟩
  have K3 : Keeps (fun _ => False) w w3 := by rw [hw3]; exact ((K0.alloc _).alloc _).alloc _
  clear hw3 ht0 K0
  have E3 := E.quiet K3
  have g1 : w3.cell? ⟨gOf 1, 0, none⟩ = some (.iface 173 (.pointer (some (ea 1)))) := E3.cell 1 (by omega) (by omega)
  have g2 : w3.cell? ⟨gOf 2, 0, none⟩ = some (.iface 173 (.pointer (some (ea 2)))) := E3.cell 2 (by omega) (by omega)
  have g3 : w3.cell? ⟨gOf 3, 0, none⟩ = some (.iface 173 (.pointer (some (ea 3)))) := E3.cell 3 (by omega) (by omega)
  have g4 : w3.cell? ⟨gOf 4, 0, none⟩ = some (.iface 173 (.pointer (some (ea 4)))) := E3.cell 4 (by omega) (by omega)
  have g5 : w3.cell? ⟨gOf 5, 0, none⟩ = some (.iface 173 (.pointer (some (ea 5)))) := E3.cell 5 (by omega) (by omega)
  have g6 : w3.cell? ⟨gOf 6, 0, none⟩ = some (.iface 173 (.pointer (some (ea 6)))) := E3.cell 6 (by omega) (by omega)
  have g7 : w3.cell? ⟨gOf 7, 0, none⟩ = some (.iface 173 (.pointer (some (ea 7)))) := E3.cell 7 (by omega) (by omega)
  have g8 : w3.cell? ⟨gOf 8, 0, none⟩ = some (.iface 173 (.pointer (some (ea 8)))) := E3.cell 8 (by omega) (by omega)
  have g9 : w3.cell? ⟨gOf 9, 0, none⟩ = some (.iface 173 (.pointer (some (ea 9)))) := E3.cell 9 (by omega) (by omega)
  have g10 : w3.cell? ⟨gOf 10, 0, none⟩ = some (.iface 173 (.pointer (some (ea 10)))) := E3.cell 10 (by omega) (by omega)
  simp only [gOf] at g1 g2 g3 g4 g5 g6 g7 g8 g9 g10
  have hten := fun i hi => ten_cells w3 ea 32 i hi
  go_wp2_with fail
  have K4 := K3.alloc (.cells #[.iface 173 (.pointer (some (ea 1))), .iface 173 (.pointer (some (ea 2))), .iface 173 (.pointer (some (ea 3))), .iface 173 (.pointer (some (ea 4))), .iface 173 (.pointer (some (ea 5))), .iface 173 (.pointer (some (ea 6))), .iface 173 (.pointer (some (ea 7))), .iface 173 (.pointer (some (ea 8))), .iface 173 (.pointer (some (ea 9))), .iface 173 (.pointer (some (ea 10)))] 32)
  generalize w3.alloc (.cells #[.iface 173 (.pointer (some (ea 1))), .iface 173 (.pointer (some (ea 2))), .iface 173 (.pointer (some (ea 3))), .iface 173 (.pointer (some (ea 4))), .iface 173 (.pointer (some (ea 5))), .iface 173 (.pointer (some (ea 6))), .iface 173 (.pointer (some (ea 7))), .iface 173 (.pointer (some (ea 8))), .iface 173 (.pointer (some (ea 9))), .iface 173 (.pointer (some (ea 10)))] 32) = w4 at *
  generalize w3.heap.size = B at *
  have E4 := E.quiet K4
  have hb4 := (K4.block _ (Array.getElem?_eq_some_iff.1 hba).1 (fun h => h)).trans hba
  clear g1 g2 g3 g4 g5 g6 g7 g8 g9 g10 E3 K3
  go_loop [3, 28] (fun s3 s28 => s3 = .int .i64 (-1) ∧ ∃ i : Nat, i ≤ 10 ∧ s28 = .int .i64 i) (fun _ s28 => 10 - (intOf s28).toNat)
  case atStart => exact ⟨rfl, 0, by omega, rfl⟩
  case round =>
    obtain ⟨rfl, i, hi, rfl⟩ := hrel
    by_cases hic : i < 10
    · have hc := hten i hic
      obtain ⟨cb, tb, hbb⟩ := E4.block (i + 1) (by omega) (by omega)
      go_wp2_with fail
      refine (is_other _ _ _ _ _ _ _ (hne (i + 1) (by omega) (by omega)) hb4 hbb).mono ?_
      rintro e w' ⟨rfl, rfl⟩
      go_wp2_with fail
      go_round
      case rel => exact ⟨rfl, i + 1, by omega, by go_num⟩
      case measure => simp [intOf]; omega
    · obtain rfl : i = 10 := by omega
      go_wp2_with fail
      go_ret2
      exact ⟨rfl, K4⟩
end Go.Proofs.YtlbdkcnbgdmpaaaDoor
