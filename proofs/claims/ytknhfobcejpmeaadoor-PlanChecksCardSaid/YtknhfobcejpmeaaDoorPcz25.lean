import Derived.Test.YtknhfobcejpmeaaDoorPcz24
import Derived.Test.YtknhfobcejpmeaaDoorErr

/- Is -/
/- The contracts of errors.Is at sentinels, and at an *api.Fault of one (turned from the worked example 'sentry'). -/
namespace Go.Proofs.YtknhfobcejpmeaaDoor
open Go.RowKit Go.Extern.Stop Go.Stop Go.Extern
set_option linter.unusedVariables false

/-! ### CLOSED FACTS: what 'reflectlite.TypeOf(target).Comparable()' gives at such a target -/
theorem Tryd.isTypeOf (v : Value) (w : World) : (Extern.ReflectliteType.typeOf #[.iface 213 v]).run Tryd.prog w = .ok (.iface 186 (.agg #[.pointer (some ⟨12, 213, none⟩)])) w := by kernel_rfl
theorem Tryd.isComparable (w : World) : ((Extern.ReflectliteType.method fun t => do Extern.Rtype.noPackHeld "Comparable" t; (fun a => Value.bool a.comparable) <$> typeInfo t) #[.agg #[.pointer (some ⟨12, 213, none⟩)]]).run Tryd.prog w = .ok (.bool true) w := by kernel_rfl
theorem Tryd.isMethodComparable (v : Value) (w : World) : (Go.method 346 186 v "Comparable").run Tryd.prog w = .ok (173, v) w := by kernel_rfl
theorem Tryd.isComp : (Tryd.prog.info? 213).map (·.comparable) = some true := by kernel_rfl
theorem Tryd.isSize : (Tryd.prog.info? 234).map (·.size) = some 1 := by kernel_rfl

/-! ### CLOSED FACTS ON THE METHOD SETS: what errors.is's assertions find -/
theorem Tryd.noIsE (v : Value) (xT : TypeId) (w : World) : (Instr.typeAssert (.iface 213 v) xT 197 true).run Tryd.prog w = .ok (.tuple #[.nilIface, .bool false]) w := run_typeAssert_lacksB Tryd.underlying197 (by kernel_rfl) (by kernel_rfl) v xT w
theorem Tryd.noUnwrapE (v : Value) (xT : TypeId) (w : World) : (Instr.typeAssert (.iface 213 v) xT 193 true).run Tryd.prog w = .ok (.tuple #[.nilIface, .bool false]) w := run_typeAssert_lacksB Tryd.underlying193 (by kernel_rfl) (by kernel_rfl) v xT w
theorem Tryd.noUnwrapsE (v : Value) (xT : TypeId) (w : World) : (Instr.typeAssert (.iface 213 v) xT 195 true).run Tryd.prog w = .ok (.tuple #[.nilIface, .bool false]) w := run_typeAssert_lacksB Tryd.underlying195 (by kernel_rfl) (by kernel_rfl) v xT w
theorem Tryd.noIsW (v : Value) (xT : TypeId) (w : World) : (Instr.typeAssert (.iface 85 v) xT 197 true).run Tryd.prog w = .ok (.tuple #[.nilIface, .bool false]) w := run_typeAssert_lacksB Tryd.underlying197 (by kernel_rfl) (by kernel_rfl) v xT w
theorem Tryd.hasUnwrapW (v : Value) (xT : TypeId) (w : World) : (Instr.typeAssert (.iface 85 v) xT 193 true).run Tryd.prog w = .ok (.tuple #[.iface 85 v, .bool true]) w := run_typeAssert_hasB Tryd.underlying193 (by kernel_rfl) v xT w
theorem Tryd.methodUnwrap (v : Value) (w : World) : (Go.method 346 85 v "Unwrap").run Tryd.prog w = .ok (167, v) w := by kernel_rfl

set_option maxRecDepth 100000 in
/-- errors.Is(x, x), x a pointer to an errors.errorString. -/
theorem is_same (a : Addr) (w : World) :
    Calls Tryd.prog 70 #[.iface 213 (.pointer (some a)), .iface 213 (.pointer (some a))] w fun e w' => e = .returned (.bool true) ∧ w' = w := by
  obtain ⟨i, hi, hcmp⟩ := Option.map_eq_some_iff.1 Tryd.isComp
  obtain ⟨j, hj, hjs⟩ := Option.map_eq_some_iff.1 Tryd.isSize
  have h8 := @run_callFunc_extern Tryd.prog 103 _ Extern.ReflectliteType.typeOf Tryd.func103 (by kernel_rfl) (by kernel_rfl) (by kernel_rfl) (by kernel_rfl)
  have h32 := @run_callFunc_extern Tryd.prog 173 _ (Extern.ReflectliteType.method fun t => do Extern.Rtype.noPackHeld "Comparable" t; pure (.bool (← typeInfo t).comparable)) Tryd.func173 (by kernel_rfl) (by kernel_rfl) (by kernel_rfl) (by kernel_rfl)
  have tT := Tryd.isTypeOf
  have cT := Tryd.isComparable
  have mR := Tryd.isMethodComparable
  have heq := run_eql_iface_ptr_same (P := Tryd.prog) w a Tryd.underlying32 Tryd.underlying213 hi hcmp hj
  go_enter Tryd.func70, Tryd.ntmps70
  go_wp2
  refine wp_loop_rounds 1 ?_
  rw [rounds_succ]
  go_wp2
  go_ret
  exact ⟨rfl, rfl⟩

set_option maxRecDepth 100000 in
/-- errors.Is(x, y), two different pointers to errors.errorString: neither has Is nor Unwrap: false. -/
theorem is_other (a b : Addr) (ca cb : Array Value) (ta tb : TypeId) (w : World) (hne : a ≠ b) (ha : w.heap[a.block]? = some (.cells ca ta (0, 0))) (hb : w.heap[b.block]? = some (.cells cb tb (0, 0))) :
    Calls Tryd.prog 70 #[.iface 213 (.pointer (some a)), .iface 213 (.pointer (some b))] w fun e w' => e = .returned (.bool false) ∧ w' = w := by
  obtain ⟨i, hi, hcmp⟩ := Option.map_eq_some_iff.1 Tryd.isComp
  obtain ⟨j, hj, hjs⟩ := Option.map_eq_some_iff.1 Tryd.isSize
  have h8 := @run_callFunc_extern Tryd.prog 103 _ Extern.ReflectliteType.typeOf Tryd.func103 (by kernel_rfl) (by kernel_rfl) (by kernel_rfl) (by kernel_rfl)
  have h32 := @run_callFunc_extern Tryd.prog 173 _ (Extern.ReflectliteType.method fun t => do Extern.Rtype.noPackHeld "Comparable" t; pure (.bool (← typeInfo t).comparable)) Tryd.func173 (by kernel_rfl) (by kernel_rfl) (by kernel_rfl) (by kernel_rfl)
  have tT := Tryd.isTypeOf
  have cT := Tryd.isComparable
  have mR := Tryd.isMethodComparable
  have nE := Tryd.noIsE
  have uE := Tryd.noUnwrapE
  have vE := Tryd.noUnwrapsE
  have nW := Tryd.noIsW
  have uW := Tryd.hasUnwrapW
  have mU := Tryd.methodUnwrap
  have heq := run_eql_iface_ptr_other (P := Tryd.prog) w Tryd.underlying32 Tryd.underlying213 hi hcmp hj (by rw [hjs]; decide) hne ha hb
  go_enter Tryd.func70, Tryd.ntmps70
  go_wp2
  refine wp_loop_rounds 1 ?_
  rw [rounds_succ]
  go_wp2
  go_ret
  exact ⟨rfl, rfl⟩

set_option maxRecDepth 100000 in
/-- errors.Is(e, x), e a *api.Fault that wraps x itself: one Unwrap, then equal. -/
theorem is_wrap_same (pb po : Nat) (b : Addr) (w : World) (h1 : w.cell? ⟨pb, po + 1, none⟩ = some (.iface 213 (.pointer (some b)))) :
    Calls Tryd.prog 70 #[.iface 85 (.pointer (some ⟨pb, po, none⟩)), .iface 213 (.pointer (some b))] w fun e w' => e = .returned (.bool true) ∧ w' = w := by
  obtain ⟨i, hi, hcmp⟩ := Option.map_eq_some_iff.1 Tryd.isComp
  obtain ⟨j, hj, hjs⟩ := Option.map_eq_some_iff.1 Tryd.isSize
  have h8 := @run_callFunc_extern Tryd.prog 103 _ Extern.ReflectliteType.typeOf Tryd.func103 (by kernel_rfl) (by kernel_rfl) (by kernel_rfl) (by kernel_rfl)
  have h32 := @run_callFunc_extern Tryd.prog 173 _ (Extern.ReflectliteType.method fun t => do Extern.Rtype.noPackHeld "Comparable" t; pure (.bool (← typeInfo t).comparable)) Tryd.func173 (by kernel_rfl) (by kernel_rfl) (by kernel_rfl) (by kernel_rfl)
  have tT := Tryd.isTypeOf
  have cT := Tryd.isComparable
  have mR := Tryd.isMethodComparable
  have nE := Tryd.noIsE
  have uE := Tryd.noUnwrapE
  have vE := Tryd.noUnwrapsE
  have nW := Tryd.noIsW
  have uW := Tryd.hasUnwrapW
  have mU := Tryd.methodUnwrap
  have heq := run_eql_iface_ptr_same (P := Tryd.prog) w b Tryd.underlying32 Tryd.underlying213 hi hcmp hj
  have hty := run_eql_iface_types (P := Tryd.prog) 85 213 (.pointer (some ⟨pb, po, none⟩)) (.pointer (some b)) Tryd.underlying32 (by decide) w
  go_enter Tryd.func70, Tryd.ntmps70
  go_wp2
  refine wp_loop_rounds 2 ?_
  rw [rounds_succ]
  go_wp2
  rw [rounds_succ]
  go_wp2
  go_ret
  exact ⟨rfl, rfl⟩

set_option maxRecDepth 100000 in
/-- errors.Is(e, x), e a *api.Fault that wraps another error of errors.New's make. -/
theorem is_wrap_other (pb po : Nat) (b a : Addr) (ca cb : Array Value) (ta tb : TypeId) (w : World) (h1 : w.cell? ⟨pb, po + 1, none⟩ = some (.iface 213 (.pointer (some a)))) (hne : a ≠ b) (ha : w.heap[a.block]? = some (.cells ca ta (0, 0))) (hb : w.heap[b.block]? = some (.cells cb tb (0, 0))) :
    Calls Tryd.prog 70 #[.iface 85 (.pointer (some ⟨pb, po, none⟩)), .iface 213 (.pointer (some b))] w fun e w' => e = .returned (.bool false) ∧ w' = w := by
  obtain ⟨i, hi, hcmp⟩ := Option.map_eq_some_iff.1 Tryd.isComp
  obtain ⟨j, hj, hjs⟩ := Option.map_eq_some_iff.1 Tryd.isSize
  have h8 := @run_callFunc_extern Tryd.prog 103 _ Extern.ReflectliteType.typeOf Tryd.func103 (by kernel_rfl) (by kernel_rfl) (by kernel_rfl) (by kernel_rfl)
  have h32 := @run_callFunc_extern Tryd.prog 173 _ (Extern.ReflectliteType.method fun t => do Extern.Rtype.noPackHeld "Comparable" t; pure (.bool (← typeInfo t).comparable)) Tryd.func173 (by kernel_rfl) (by kernel_rfl) (by kernel_rfl) (by kernel_rfl)
  have tT := Tryd.isTypeOf
  have cT := Tryd.isComparable
  have mR := Tryd.isMethodComparable
  have nE := Tryd.noIsE
  have uE := Tryd.noUnwrapE
  have vE := Tryd.noUnwrapsE
  have nW := Tryd.noIsW
  have uW := Tryd.hasUnwrapW
  have mU := Tryd.methodUnwrap
  have heq := run_eql_iface_ptr_other (P := Tryd.prog) w Tryd.underlying32 Tryd.underlying213 hi hcmp hj (by rw [hjs]; decide) hne ha hb
  have hty := run_eql_iface_types (P := Tryd.prog) 85 213 (.pointer (some ⟨pb, po, none⟩)) (.pointer (some b)) Tryd.underlying32 (by decide) w
  go_enter Tryd.func70, Tryd.ntmps70
  go_wp2
  refine wp_loop_rounds 2 ?_
  rw [rounds_succ]
  go_wp2
  rw [rounds_succ]
  go_wp2
  go_ret
  exact ⟨rfl, rfl⟩

end Go.Proofs.YtknhfobcejpmeaaDoor

/- AsMiss -/
/- errors.As at '**api.Fault' where the error is of errors.New's make: false. -/
namespace Go.Proofs.YtknhfobcejpmeaaDoor
open Go.RowKit Go.Extern.Stop Go.Stop Go.Extern
set_option linter.unusedVariables false

theorem Tryd.assignableE (w : World) : (ReflectliteType.relation "AssignableTo" ReflectliteType.assignableTo #[.agg #[.pointer (some ⟨12, 213, none⟩)], .iface 186 (.agg #[.pointer (some ⟨12, 85, none⟩)])]).run Tryd.prog w = .ok (.bool false) w := by kernel_rfl
theorem Tryd.noAsE (v : Value) (xT : TypeId) (w : World) : (Instr.typeAssert (.iface 213 v) xT 190 true).run Tryd.prog w = .ok (.tuple #[.nilIface, .bool false]) w := run_typeAssert_lacksB Tryd.underlying190 (by kernel_rfl) (by kernel_rfl) v xT w

set_option maxHeartbeats 4000000 in
theorem as_miss (e t : Addr) (old : Value) (w : World) (hg : w.cell? ⟨10, 0, none⟩ = some (.iface 186 (.agg #[.pointer (some ⟨12, 32, none⟩)]))) (ht0 : w.cell? t = some old) (hf0 : w.frozen? t = false) :
    Calls Tryd.prog 69 #[.iface 213 (.pointer (some e)), .iface 131 (.pointer (some t))] w fun ev w' => ev = .returned (.bool false) ∧ w' = (((w.alloc (.cells #[.pointer (some t)] 131)).alloc (.cells #[.pointer (some ⟨12, 131, none⟩), .pointer (some ⟨w.heap.size, 0, none⟩), .int .u64 150] 158)).alloc (.cells #[.pointer (some ⟨12, 131, none⟩), .pointer (some ⟨w.heap.size, 0, none⟩), .int .u64 150] 158)) := by
  have h6 := @run_callFunc_extern Tryd.prog 99 _ (fun args => ReflectliteValue.unpack (args.getD 0 (.tuple #[]))) Tryd.func99 (by kernel_rfl) (by kernel_rfl) (by kernel_rfl) (by kernel_rfl)
  have h7 := @run_callFunc_extern Tryd.prog 100 _ (ReflectliteValue.methodAny (ReflectliteValue.valueError "reflectlite.Value.Type" 0) (fun t _ _ _ => ReflectliteType.toType t)) Tryd.func100 (by kernel_rfl) (by kernel_rfl) (by kernel_rfl) (by kernel_rfl)
  have h8 := @run_callFunc_extern Tryd.prog 101 _ (ReflectliteValue.method (ReflectliteValue.valueError "reflectlite.Value.IsNil" 0) ReflectliteValue.isNil) Tryd.func101 (by kernel_rfl) (by kernel_rfl) (by kernel_rfl) (by kernel_rfl)
  have h27 := @run_callFunc_extern Tryd.prog 163 _ (ReflectliteType.abiMethod fun t => do pure (.int .u8 (← Rtype.kind t))) Tryd.func163 (by kernel_rfl) (by kernel_rfl) (by kernel_rfl) (by kernel_rfl)
  have h37 := @run_callFunc_extern Tryd.prog 174 _ (ReflectliteType.method ReflectliteType.elem) Tryd.func174 (by kernel_rfl) (by kernel_rfl) (by kernel_rfl) (by kernel_rfl)
  have h38 := @run_callFunc_extern Tryd.prog 175 _ (ReflectliteType.relation "Implements" ReflectliteType.implements_) Tryd.func175 (by kernel_rfl) (by kernel_rfl) (by kernel_rfl) (by kernel_rfl)
  have h10 := @run_callFunc_extern Tryd.prog 103 _ ReflectliteType.typeOf Tryd.func103 (by kernel_rfl) (by kernel_rfl) (by kernel_rfl) (by kernel_rfl)
  have h35 := @run_callFunc_extern Tryd.prog 172 _ (ReflectliteType.relation "AssignableTo" ReflectliteType.assignableTo) Tryd.func172 (by kernel_rfl) (by kernel_rfl) (by kernel_rfl) (by kernel_rfl)
  have h11 := @run_callFunc_extern Tryd.prog 130 _ (ReflectliteValue.method (ReflectliteValue.valueError "reflectlite.Value.Elem" 0) ReflectliteValue.elem) Tryd.func130 (by kernel_rfl) (by kernel_rfl) (by kernel_rfl) (by kernel_rfl)
  have h12 := @run_callFunc_extern Tryd.prog 131 _ ReflectliteValue.set Tryd.func131 (by kernel_rfl) (by kernel_rfl) (by kernel_rfl) (by kernel_rfl)
  have tO := Tryd.isTypeOf
  have nA := Tryd.noAsE
  have nU := Tryd.noUnwrapE
  have nV := Tryd.noUnwrapsE
  have mA := Tryd.methodAssignableTo
  have a25 := Tryd.assignableE
  have f6 := Tryd.valueOf27
  have f7 := Tryd.type27
  have mK := Tryd.methodKind
  have mE := Tryd.methodElem
  have mI := Tryd.methodImplements
  have k27 := Tryd.kind27
  have k25 := Tryd.kind25
  have e27 := Tryd.elem27
  have i25 := Tryd.implements25
  have n8 := Tryd.isNil27 ⟨w.heap.size, 0, none⟩ t ((w.alloc (.cells #[.pointer (some t)] 131)).alloc (.cells #[.pointer (some ⟨12, 131, none⟩), .pointer (some ⟨w.heap.size, 0, none⟩), .int .u64 150] 158)) (by simp)
  have hlt : 10 < w.heap.size := World.block_lt_of_cell? w ⟨10, 0, none⟩ hg
  have hg2 : ((w.alloc (.cells #[.pointer (some t)] 131)).alloc (.cells #[.pointer (some ⟨12, 131, none⟩), .pointer (some ⟨w.heap.size, 0, none⟩), .int .u64 150] 158)).cell? ⟨10, 0, none⟩ = some (.iface 186 (.agg #[.pointer (some ⟨12, 32, none⟩)])) := by
    rw [World.cell?_alloc_lt _ _ ⟨10, 0, none⟩ (by simp; omega), World.cell?_alloc_lt _ _ ⟨10, 0, none⟩ hlt]; exact hg
  have htl : t.block < w.heap.size := by
    rcases Nat.lt_or_ge t.block w.heap.size with h | h
    · exact h
    · simp [World.cell?, Array.getElem?_eq_none h] at ht0
  go_enter Tryd.func69, Tryd.ntmps69
  go_wp2
  refine wp_loop_rounds 1 ?_
  rw [rounds_succ]
  go_wp2
  go_ret
  exact ⟨rfl, rfl⟩
end Go.Proofs.YtknhfobcejpmeaaDoor

/- Code -/
/- The walk of plain.Code. -/
namespace Go.Proofs.YtknhfobcejpmeaaDoor
open Go.RowKit Go.Deep
set_option linter.unusedVariables false

/-- the variable of an error's number -/
def gOf : Nat → Nat
  | 1 => 3
  | 2 => 0
  | 3 => 2
  | 4 => 4
  | 5 => 5
  | 6 => 6
  | 7 => 7
  | 8 => 1
  | 9 => 8
  | _ => 9
/-- all ten errors as they lie, and the handle that errors.As looks at -/
structure ErrsAll (w : World) (ea : Nat → Addr) : Prop where
  cell : ∀ c, 1 ≤ c → c ≤ 10 → w.cell? ⟨gOf c, 0, none⟩ = some (errV ea c)
  block : ∀ c, 1 ≤ c → c ≤ 10 → ∃ cs t, w.heap[(ea c).block]? = some (.cells cs t (0, 0))
  ne : ∀ c d, 1 ≤ c → c ≤ 10 → 1 ≤ d → d ≤ 10 → c ≠ d → ea c ≠ ea d
  type : w.cell? ⟨10, 0, none⟩ = some (.iface 186 (.agg #[.pointer (some ⟨12, 32, none⟩)]))
theorem ErrsAll.three {w : World} {ea : Nat → Addr} (E : ErrsAll w ea) : Errs3 w ea := ⟨E.cell 3 (by omega) (by omega), E.cell 9 (by omega) (by omega), E.cell 10 (by omega) (by omega)⟩
theorem ErrsAll.keep {w w' : World} {ea : Nat → Addr} {S : Nat → Prop} (E : ErrsAll w ea) (k : Keeps S w w') (hS : ∀ b, b < 12 → ¬ S b) (h : ∀ c, 1 ≤ c → c ≤ 10 → ¬ S (ea c).block) : ErrsAll w' ea where
  cell := fun c h1 h2 => k.cell' (E.cell c h1 h2) (hS _ (by
    have : c = 1 ∨ c = 2 ∨ c = 3 ∨ c = 4 ∨ c = 5 ∨ c = 6 ∨ c = 7 ∨ c = 8 ∨ c = 9 ∨ c = 10 := by omega
    rcases this with rfl | rfl | rfl | rfl | rfl | rfl | rfl | rfl | rfl | rfl <;> decide))
  block := fun c h1 h2 => by
    obtain ⟨cs, t, hb⟩ := E.block c h1 h2
    exact ⟨cs, t, (k.block _ (Array.getElem?_eq_some_iff.1 hb).1 (h c h1 h2)).trans hb⟩
  ne := E.ne
  type := k.cell' E.type (hS _ (by decide))
theorem ErrsAll.quiet {w w' : World} {ea : Nat → Addr} (E : ErrsAll w ea) (k : Keeps (fun _ => False) w w') : ErrsAll w' ea := E.keep k (fun _ _ h => h) (fun _ _ _ h => h)

theorem code_nil (w : World) :
    Calls Tryd.prog 38 #[.nilIface] w fun e w' => e = .returned (.tuple #[.int .i64 0, .int .i64 (-1)]) ∧ w = w' := by
  go_enter Tryd.func38, Tryd.ntmps38
  go_wp2_with fail
  go_ret2
  exact ⟨rfl, rfl⟩

theorem cell_set {w : World} {b o : Nat} {old v : Value} {T : TypeId} {cs : Array Value} {fz : Nat × Nat} (h : w.heap[b]? = some (.cells cs T fz)) (ho : o < cs.size) : (w.setCell ⟨b, o, none⟩ v).cell? ⟨b, o, none⟩ = some v := by
  have h2 : (w.setCell ⟨b, o, none⟩ v).heap[b]? = some (.cells (cs.setIfInBounds o v) T fz) := by simp [World.setCell, Array.getElem?_modify, h]
  unfold World.cell?
  rw [h2]
  simp [ho]
/-- the ten errors in a row -/
theorem ten_cells (w : World) (ea : Nat → Addr) (T : TypeId) (i : Nat) (hi : i < 10) :
    (w.alloc (.cells #[.iface 213 (.pointer (some (ea 1))), .iface 213 (.pointer (some (ea 2))), .iface 213 (.pointer (some (ea 3))), .iface 213 (.pointer (some (ea 4))), .iface 213 (.pointer (some (ea 5))), .iface 213 (.pointer (some (ea 6))), .iface 213 (.pointer (some (ea 7))), .iface 213 (.pointer (some (ea 8))), .iface 213 (.pointer (some (ea 9))), .iface 213 (.pointer (some (ea 10)))] T)).cell? ⟨w.heap.size, i, none⟩ = some (.iface 213 (.pointer (some (ea (i + 1))))) := by
  unfold World.cell?
  rw [blk_alloc_new]
  have : i = 0 ∨ i = 1 ∨ i = 2 ∨ i = 3 ∨ i = 4 ∨ i = 5 ∨ i = 6 ∨ i = 7 ∨ i = 8 ∨ i = 9 := by omega
  rcases this with rfl | rfl | rfl | rfl | rfl | rfl | rfl | rfl | rfl | rfl <;> rfl

set_option maxRecDepth 100000 in
set_option maxHeartbeats 2000000 in
theorem code_sent (c : Nat) (h1 : 1 ≤ c) (h2 : c ≤ 10) (w : World) (ea : Nat → Addr) (E : ErrsAll w ea) :
    Calls Tryd.prog 38 #[errV ea c] w fun e w' => e = .returned (.tuple #[.int .i64 c, .int .i64 (-1)]) ∧ Keeps (fun _ => False) w w' := by
  have K0 := (Keeps.refl (fun _ => False) w).alloc (.cells #[.pointer none] 85)
  have ht0 : (w.alloc (.cells #[.pointer none] 85)).cell? ⟨w.heap.size, 0, none⟩ = some (.pointer none) := by simp
  unfold errV
  go_enter Tryd.func38, Tryd.ntmps38
  go_wp2_with fail
  refine (as_miss _ _ _ _ (E.quiet K0).type ht0 (by simp)).mono ?_
  rintro e w3 ⟨rfl, hw3⟩
  have K3 : Keeps (fun _ => False) w w3 := by rw [hw3]; exact ((K0.alloc _).alloc _).alloc _
  clear hw3 ht0 K0
  have E3 := E.quiet K3
  have g1 : w3.cell? ⟨gOf 1, 0, none⟩ = some (.iface 213 (.pointer (some (ea 1)))) := E3.cell 1 (by omega) (by omega)
  have g2 : w3.cell? ⟨gOf 2, 0, none⟩ = some (.iface 213 (.pointer (some (ea 2)))) := E3.cell 2 (by omega) (by omega)
  have g3 : w3.cell? ⟨gOf 3, 0, none⟩ = some (.iface 213 (.pointer (some (ea 3)))) := E3.cell 3 (by omega) (by omega)
  have g4 : w3.cell? ⟨gOf 4, 0, none⟩ = some (.iface 213 (.pointer (some (ea 4)))) := E3.cell 4 (by omega) (by omega)
  have g5 : w3.cell? ⟨gOf 5, 0, none⟩ = some (.iface 213 (.pointer (some (ea 5)))) := E3.cell 5 (by omega) (by omega)
  have g6 : w3.cell? ⟨gOf 6, 0, none⟩ = some (.iface 213 (.pointer (some (ea 6)))) := E3.cell 6 (by omega) (by omega)
  have g7 : w3.cell? ⟨gOf 7, 0, none⟩ = some (.iface 213 (.pointer (some (ea 7)))) := E3.cell 7 (by omega) (by omega)
  have g8 : w3.cell? ⟨gOf 8, 0, none⟩ = some (.iface 213 (.pointer (some (ea 8)))) := E3.cell 8 (by omega) (by omega)
  have g9 : w3.cell? ⟨gOf 9, 0, none⟩ = some (.iface 213 (.pointer (some (ea 9)))) := E3.cell 9 (by omega) (by omega)
  have g10 : w3.cell? ⟨gOf 10, 0, none⟩ = some (.iface 213 (.pointer (some (ea 10)))) := E3.cell 10 (by omega) (by omega)
  simp only [gOf] at g1 g2 g3 g4 g5 g6 g7 g8 g9 g10
  have hten := fun i hi => ten_cells w3 ea 32 i hi
  go_wp2_with fail
  have K4 := K3.alloc (.cells #[.iface 213 (.pointer (some (ea 1))), .iface 213 (.pointer (some (ea 2))), .iface 213 (.pointer (some (ea 3))), .iface 213 (.pointer (some (ea 4))), .iface 213 (.pointer (some (ea 5))), .iface 213 (.pointer (some (ea 6))), .iface 213 (.pointer (some (ea 7))), .iface 213 (.pointer (some (ea 8))), .iface 213 (.pointer (some (ea 9))), .iface 213 (.pointer (some (ea 10)))] 32)
  generalize w3.alloc (.cells #[.iface 213 (.pointer (some (ea 1))), .iface 213 (.pointer (some (ea 2))), .iface 213 (.pointer (some (ea 3))), .iface 213 (.pointer (some (ea 4))), .iface 213 (.pointer (some (ea 5))), .iface 213 (.pointer (some (ea 6))), .iface 213 (.pointer (some (ea 7))), .iface 213 (.pointer (some (ea 8))), .iface 213 (.pointer (some (ea 9))), .iface 213 (.pointer (some (ea 10)))] 32) = w4 at *
  generalize w3.heap.size = B at *
  have E4 := E.quiet K4
  clear g1 g2 g3 g4 g5 g6 g7 g8 g9 g10 E3 K3
  go_loop [3, 28] (fun s3 s28 => s3 = .int .i64 (-1) ∧ ∃ i : Nat, i < c ∧ s28 = .int .i64 i) (fun _ s28 => 10 - (intOf s28).toNat)
  case atStart => exact ⟨rfl, 0, by omega, rfl⟩
  case round =>
    obtain ⟨rfl, i, hi, rfl⟩ := hrel
    have hc := hten i (by omega)
    by_cases hic : i + 1 = c
    · subst hic
      go_wp2_with fail
      refine (is_same _ _).mono ?_
      rintro e w' ⟨rfl, rfl⟩
      go_wp2_with fail
      go_ret2
      exact ⟨rfl, K4⟩
    · obtain ⟨ca, ta, hba⟩ := E4.block c h1 h2
      obtain ⟨cb, tb, hbb⟩ := E4.block (i + 1) (by omega) (by omega)
      go_wp2_with fail
      refine (is_other _ _ _ _ _ _ _ (E.ne c (i + 1) h1 h2 (by omega) (by omega) (fun h => hic h.symm)) hba hbb).mono ?_
      rintro e w' ⟨rfl, rfl⟩
      go_wp2_with fail
      go_round
      case rel => exact ⟨rfl, i + 1, by omega, by go_num⟩
      case measure => simp [intOf]; omega

set_option maxRecDepth 100000 in
set_option maxHeartbeats 2000000 in
theorem code_fault (c : Nat) (h1 : 1 ≤ c) (h2 : c ≤ 10) (b : Nat) (at_ : Int) (w : World) (ea : Nat → Addr) (E : ErrsAll w ea) (hb0 : w.cell? ⟨b, 0, none⟩ = some (.int .i64 at_)) (hb1 : w.cell? ⟨b, 1, none⟩ = some (errV ea c)) :
    Calls Tryd.prog 38 #[.iface 85 (.pointer (some ⟨b, 0, none⟩))] w fun e w' => e = .returned (.tuple #[.int .i64 c, .int .i64 at_]) ∧ Keeps (fun _ => False) w w' := by
  have K0 := (Keeps.refl (fun _ => False) w).alloc (.cells #[.pointer none] 85)
  have ht0 : (w.alloc (.cells #[.pointer none] 85)).cell? ⟨w.heap.size, 0, none⟩ = some (.pointer none) := by simp
  unfold errV at hb1
  go_enter Tryd.func38, Tryd.ntmps38
  go_wp2_with fail
  refine (as_hit _ _ _ _ (E.quiet K0).type ht0 (by simp)).mono ?_
  rintro e w3 ⟨rfl, hw3⟩
  have K3 : Keeps (fun _ => False) w w3 := by rw [hw3]; exact ((((K0.alloc _).alloc _).alloc _).alloc _).setCell (a := ⟨w.heap.size, 0, none⟩) (fun h => absurd h (Nat.lt_irrefl _)) _
  have hf3 : w3.cell? ⟨w.heap.size, 0, none⟩ = some (.pointer (some ⟨b, 0, none⟩)) := by
    have hz := blk_alloc_new w (.cells #[.pointer none] 85)
    have hl : w.heap.size < (w.alloc (.cells #[.pointer none] 85)).heap.size := (Array.getElem?_eq_some_iff.1 hz).1
    have kk : ∀ o1 o2 o3 o4, Keeps (fun _ => False) (w.alloc (.cells #[.pointer none] 85)) (((((w.alloc (.cells #[.pointer none] 85)).alloc o1).alloc o2).alloc o3).alloc o4) := fun o1 o2 o3 o4 => ((((Keeps.refl _ _).alloc o1).alloc o2).alloc o3).alloc o4
    rw [hw3]
    exact cell_set (old := .nilIface) (((kk _ _ _ _).block _ hl (fun h => h)).trans hz) (by simp)
  have hd0 := K3.cell' hb0 (fun h => h)
  have hd1 := K3.cell' hb1 (fun h => h)
  clear hw3 ht0 K0
  have E3 := E.quiet K3
  have g1 : w3.cell? ⟨gOf 1, 0, none⟩ = some (.iface 213 (.pointer (some (ea 1)))) := E3.cell 1 (by omega) (by omega)
  have g2 : w3.cell? ⟨gOf 2, 0, none⟩ = some (.iface 213 (.pointer (some (ea 2)))) := E3.cell 2 (by omega) (by omega)
  have g3 : w3.cell? ⟨gOf 3, 0, none⟩ = some (.iface 213 (.pointer (some (ea 3)))) := E3.cell 3 (by omega) (by omega)
  have g4 : w3.cell? ⟨gOf 4, 0, none⟩ = some (.iface 213 (.pointer (some (ea 4)))) := E3.cell 4 (by omega) (by omega)
  have g5 : w3.cell? ⟨gOf 5, 0, none⟩ = some (.iface 213 (.pointer (some (ea 5)))) := E3.cell 5 (by omega) (by omega)
  have g6 : w3.cell? ⟨gOf 6, 0, none⟩ = some (.iface 213 (.pointer (some (ea 6)))) := E3.cell 6 (by omega) (by omega)
  have g7 : w3.cell? ⟨gOf 7, 0, none⟩ = some (.iface 213 (.pointer (some (ea 7)))) := E3.cell 7 (by omega) (by omega)
  have g8 : w3.cell? ⟨gOf 8, 0, none⟩ = some (.iface 213 (.pointer (some (ea 8)))) := E3.cell 8 (by omega) (by omega)
  have g9 : w3.cell? ⟨gOf 9, 0, none⟩ = some (.iface 213 (.pointer (some (ea 9)))) := E3.cell 9 (by omega) (by omega)
  have g10 : w3.cell? ⟨gOf 10, 0, none⟩ = some (.iface 213 (.pointer (some (ea 10)))) := E3.cell 10 (by omega) (by omega)
  simp only [gOf] at g1 g2 g3 g4 g5 g6 g7 g8 g9 g10
  have hten := fun i hi => ten_cells w3 ea 32 i hi
  go_wp2_with fail
  have K4 := K3.alloc (.cells #[.iface 213 (.pointer (some (ea 1))), .iface 213 (.pointer (some (ea 2))), .iface 213 (.pointer (some (ea 3))), .iface 213 (.pointer (some (ea 4))), .iface 213 (.pointer (some (ea 5))), .iface 213 (.pointer (some (ea 6))), .iface 213 (.pointer (some (ea 7))), .iface 213 (.pointer (some (ea 8))), .iface 213 (.pointer (some (ea 9))), .iface 213 (.pointer (some (ea 10)))] 32)
  generalize w3.alloc (.cells #[.iface 213 (.pointer (some (ea 1))), .iface 213 (.pointer (some (ea 2))), .iface 213 (.pointer (some (ea 3))), .iface 213 (.pointer (some (ea 4))), .iface 213 (.pointer (some (ea 5))), .iface 213 (.pointer (some (ea 6))), .iface 213 (.pointer (some (ea 7))), .iface 213 (.pointer (some (ea 8))), .iface 213 (.pointer (some (ea 9))), .iface 213 (.pointer (some (ea 10)))] 32) = w4 at *
  generalize w3.heap.size = B at *
  have E4 := E.quiet K4
  have hd4 := K4.cell' hb1 (fun h => h)
  clear hd0 hd1 g1 g2 g3 g4 g5 g6 g7 g8 g9 g10 E3 K3
  go_loop [3, 28] (fun s3 s28 => s3 = .int .i64 at_ ∧ ∃ i : Nat, i < c ∧ s28 = .int .i64 i) (fun _ s28 => 10 - (intOf s28).toNat)
  case atStart => exact ⟨rfl, 0, by omega, rfl⟩
  case round =>
    obtain ⟨rfl, i, hi, rfl⟩ := hrel
    have hc := hten i (by omega)
    by_cases hic : i + 1 = c
    · subst hic
      go_wp2_with fail
      refine (is_wrap_same b 0 _ _ hd4).mono ?_
      rintro e w' ⟨rfl, rfl⟩
      go_wp2_with fail
      go_ret2
      exact ⟨rfl, K4⟩
    · obtain ⟨ca, ta, hba⟩ := E4.block c h1 h2
      obtain ⟨cb, tb, hbb⟩ := E4.block (i + 1) (by omega) (by omega)
      go_wp2_with fail
      refine (is_wrap_other b 0 _ _ _ _ _ _ _ hd4 (E.ne c (i + 1) h1 h2 (by omega) (by omega) (fun h => hic h.symm)) hba hbb).mono ?_
      rintro e w' ⟨rfl, rfl⟩
      go_wp2_with fail
      go_round
      case rel => exact ⟨rfl, i + 1, by omega, by go_num⟩
      case measure => simp [intOf]; omega

set_option maxRecDepth 100000 in
set_option maxHeartbeats 2000000 in
theorem code_other (a : Addr) (ca : Array Value) (ta : TypeId) (w : World) (ea : Nat → Addr) (E : ErrsAll w ea) (hne : ∀ c, 1 ≤ c → c ≤ 10 → a ≠ ea c) (hba : w.heap[a.block]? = some (.cells ca ta (0, 0))) :
    Calls Tryd.prog 38 #[.iface 213 (.pointer (some a))] w fun e w' => e = .returned (.tuple #[.int .i64 (-1), .int .i64 (-1)]) ∧ Keeps (fun _ => False) w w' := by
  have K0 := (Keeps.refl (fun _ => False) w).alloc (.cells #[.pointer none] 85)
  have ht0 : (w.alloc (.cells #[.pointer none] 85)).cell? ⟨w.heap.size, 0, none⟩ = some (.pointer none) := by simp
  go_enter Tryd.func38, Tryd.ntmps38
  go_wp2_with fail
  refine (as_miss _ _ _ _ (E.quiet K0).type ht0 (by simp)).mono ?_
  rintro e w3 ⟨rfl, hw3⟩
  have K3 : Keeps (fun _ => False) w w3 := by rw [hw3]; exact ((K0.alloc _).alloc _).alloc _
  clear hw3 ht0 K0
  have E3 := E.quiet K3
  have g1 : w3.cell? ⟨gOf 1, 0, none⟩ = some (.iface 213 (.pointer (some (ea 1)))) := E3.cell 1 (by omega) (by omega)
  have g2 : w3.cell? ⟨gOf 2, 0, none⟩ = some (.iface 213 (.pointer (some (ea 2)))) := E3.cell 2 (by omega) (by omega)
  have g3 : w3.cell? ⟨gOf 3, 0, none⟩ = some (.iface 213 (.pointer (some (ea 3)))) := E3.cell 3 (by omega) (by omega)
  have g4 : w3.cell? ⟨gOf 4, 0, none⟩ = some (.iface 213 (.pointer (some (ea 4)))) := E3.cell 4 (by omega) (by omega)
  have g5 : w3.cell? ⟨gOf 5, 0, none⟩ = some (.iface 213 (.pointer (some (ea 5)))) := E3.cell 5 (by omega) (by omega)
  have g6 : w3.cell? ⟨gOf 6, 0, none⟩ = some (.iface 213 (.pointer (some (ea 6)))) := E3.cell 6 (by omega) (by omega)
  have g7 : w3.cell? ⟨gOf 7, 0, none⟩ = some (.iface 213 (.pointer (some (ea 7)))) := E3.cell 7 (by omega) (by omega)
  have g8 : w3.cell? ⟨gOf 8, 0, none⟩ = some (.iface 213 (.pointer (some (ea 8)))) := E3.cell 8 (by omega) (by omega)
  have g9 : w3.cell? ⟨gOf 9, 0, none⟩ = some (.iface 213 (.pointer (some (ea 9)))) := E3.cell 9 (by omega) (by omega)
  have g10 : w3.cell? ⟨gOf 10, 0, none⟩ = some (.iface 213 (.pointer (some (ea 10)))) := E3.cell 10 (by omega) (by omega)
  simp only [gOf] at g1 g2 g3 g4 g5 g6 g7 g8 g9 g10
  have hten := fun i hi => ten_cells w3 ea 32 i hi
  go_wp2_with fail
  have K4 := K3.alloc (.cells #[.iface 213 (.pointer (some (ea 1))), .iface 213 (.pointer (some (ea 2))), .iface 213 (.pointer (some (ea 3))), .iface 213 (.pointer (some (ea 4))), .iface 213 (.pointer (some (ea 5))), .iface 213 (.pointer (some (ea 6))), .iface 213 (.pointer (some (ea 7))), .iface 213 (.pointer (some (ea 8))), .iface 213 (.pointer (some (ea 9))), .iface 213 (.pointer (some (ea 10)))] 32)
  generalize w3.alloc (.cells #[.iface 213 (.pointer (some (ea 1))), .iface 213 (.pointer (some (ea 2))), .iface 213 (.pointer (some (ea 3))), .iface 213 (.pointer (some (ea 4))), .iface 213 (.pointer (some (ea 5))), .iface 213 (.pointer (some (ea 6))), .iface 213 (.pointer (some (ea 7))), .iface 213 (.pointer (some (ea 8))), .iface 213 (.pointer (some (ea 9))), .iface 213 (.pointer (some (ea 10)))] 32) = w4 at *
  generalize w3.heap.size = B at *
  have E4 := E.quiet K4
  have hb4 := (K4.block _ (Array.getElem?_eq_some_iff.1 hba).1 (fun h => h)).trans hba
  clear g1 g2 g3 g4 g5 g6 g7 g8 g9 g10 E3 K3
  go_loop [3, 28] (fun s3 s28 => s3 = .int .i64 (-1) ∧ ∃ i : Nat, i ≤ 10 ∧ s28 = .int .i64 i) (fun _ s28 => 10 - (intOf s28).toNat)
  case atStart => exact ⟨rfl, 0, by omega, rfl⟩
  case round =>
    obtain ⟨rfl, i, hi, rfl⟩ := hrel
    by_cases hic : i < 10
    · have hc := hten i hic
      obtain ⟨cb, tb, hbb⟩ := E4.block (i + 1) (by omega) (by omega)
      go_wp2_with fail
      refine (is_other _ _ _ _ _ _ _ (hne (i + 1) (by omega) (by omega)) hb4 hbb).mono ?_
      rintro e w' ⟨rfl, rfl⟩
      go_wp2_with fail
      go_round
      case rel => exact ⟨rfl, i + 1, by omega, by go_num⟩
      case measure => simp [intOf]; omega
    · obtain rfl : i = 10 := by omega
      go_wp2_with fail
      go_ret2
      exact ⟨rfl, K4⟩
end Go.Proofs.YtknhfobcejpmeaaDoor
