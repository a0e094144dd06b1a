import Derived.Test.YtknhfobcejpmeaaGreatDoorStDefs
import Derived.DeepKeys
import Derived.Deep.MidRow
import Derived.Test.YtknhfobcejpmeaaGreatDoorPez14
import Derived.Test.YtknhfobcejpmeaaGreatDoorStored
import Derived.Test.YtknhfobcejpmeaaGreatDoorPez06
import Derived.Laws.Rows
import Derived.Test.YtknhfobcejpmeaaGreatDoorPez13
import Derived.Test.YtknhfobcejpmeaaGreatDoorMach

/- StEqD -/
/- Two states, or two rows of registers, compared where they are the same. -/
namespace Go.Proofs.YtknhfobcejpmeaaGreatDoor
open Go.RowKit Go.Deep
set_option linter.unusedVariables false

theorem mapM_some {α β : Type} (f : α → Option β) (l : List α) (h : ∀ x ∈ l, ∃ y, f x = some y) : ∃ L, l.mapM f = some L := by
  induction l with
  | nil => exact ⟨[], rfl⟩
  | cons a l ih =>
    obtain ⟨y, hy⟩ := h a (List.mem_cons_self ..)
    obtain ⟨L, hL⟩ := ih fun x hx => h x (List.mem_cons_of_mem _ hx)
    exact ⟨y :: L, by rw [List.mapM_cons, hy, hL]; rfl⟩
theorem lits_int (d : Nat) {t : TypeId} {k : IntKind} (ht : Tryz.prog.underlying t = some (.int k)) (v : Int) (hw : (Lit.int k v).wf = true) : ∃ L, Tryz.prog.keyLits (d + 1) t [.int k v] = some L := by
  refine ⟨[.int k v], ?_⟩
  unfold Program.keyLits
  rw [ht]
  simp only
  rw [if_pos (by simpa using hw)]
theorem wf_W {v : Int} (h : Cp.W v) : (Lit.int .u32 v).wf = true := by
  have e1 : IntKind.u32.min = 0 := by decide
  have e2 : IntKind.u32.max = 4294967295 := by decide
  show (decide (IntKind.u32.min ≤ v) && decide (v ≤ IntKind.u32.max)) = true
  rw [e1, e2]
  unfold Cp.W at h
  simp
  omega
theorem lits_u32 (d : Nat) (v : Int) (h : Cp.W v) : ∃ L, Tryz.prog.keyLits (d + 1) 22 [.int .u32 v] = some L := lits_int d Tryz.underlying22 v (wf_W h)
theorem lits_bool (d : Nat) (b : Bool) : ∃ L, Tryz.prog.keyLits (d + 1) 4 [.bool b] = some L := by
  refine ⟨[.bool b], ?_⟩
  unfold Program.keyLits
  rw [Tryz.underlying4]
theorem cellsOf_u32 : Tryz.prog.cellsOf 22 = 1 := by kernel_rfl
theorem cellsOf_int : Tryz.prog.cellsOf 3 = 1 := by kernel_rfl
theorem cellsOf_bool : Tryz.prog.cellsOf 4 = 1 := by kernel_rfl
theorem cellsOf_regs : Tryz.prog.cellsOf 24 = 32 := by kernel_rfl
theorem cellsOf_st : Tryz.prog.cellsOf 26 = 43 := by kernel_rfl
theorem lits_regs (d : Nat) (R : Nat → Int) (h : ∀ k, k < 32 → Cp.W (R k)) : ∃ L, Tryz.prog.keyLits (d + 2) 24 (regs R) = some L := by
  have hm := mapM_some (fun i => Tryz.prog.keyLits (d + 1) 22 (((regs R).drop (i * Tryz.prog.cellsOf 22)).take (Tryz.prog.cellsOf 22))) (List.range 32) (fun i hi => by
    have hi : i < 32 := List.mem_range.1 hi
    have : ((regs R).drop (i * Tryz.prog.cellsOf 22)).take (Tryz.prog.cellsOf 22) = [.int .u32 (R i)] := by
      rw [cellsOf_u32, Nat.mul_one]
      apply List.ext_getElem?
      intro j
      by_cases hj : j = 0
      · subst hj
        simp [regs, hi]
      · rw [List.getElem?_eq_none (by simp; omega), List.getElem?_eq_none (by simp; omega)]
    simp only [this]
    exact lits_u32 d _ (h i hi))
  obtain ⟨L, hL⟩ := hm
  refine ⟨L.flatten, ?_⟩
  unfold Program.keyLits
  rw [Tryz.underlying24]
  simp only
  rw [if_pos (by rw [regs_len, cellsOf_regs]), hL]
  rfl
theorem fields_st : ∃ fs, Tryz.prog.underlying 26 = some (.struct fs) ∧ fs.all (·.name != "_") = true ∧ fs.toList.map (fun f => (f.type, f.offset)) = [(24, 0), (22, 32), (22, 33), (22, 34), (22, 35), (4, 36), (22, 37), (22, 38), (22, 39), (22, 40), (22, 41), (3, 42)] :=
  ⟨_, Tryz.underlying26, by kernel_rfl, by kernel_rfl⟩
theorem take_rest (s : Cp.St) (i : Nat) (v : Value) (h : (restC s)[i]? = some v) : ((stL s).drop (32 + i)).take 1 = [v] := by
  have hlt := (List.getElem?_eq_some_iff.1 h).1
  have : (stL s)[32 + i]? = some v := by
    unfold stL
    rw [List.getElem?_append_right (by rw [regs_len]; omega), regs_len, show 32 + i - 32 = i by omega]
    exact h
  apply List.ext_getElem?
  intro j
  by_cases hj : j = 0
  · subst hj
    rw [List.getElem?_take_of_lt (by omega), List.getElem?_drop]
    exact this
  · rw [List.getElem?_eq_none (by simp; omega), List.getElem?_eq_none (by simp; omega)]
theorem lits_st (d : Nat) (s : Cp.St) (h : Cp.Rng s) : ∃ L, Tryz.prog.keyLits (d + 3) 26 (stL s) = some L := by
  obtain ⟨fs, hu, hn, hf⟩ := fields_st
  have hm := mapM_some (fun f => Tryz.prog.keyLits (d + 2) f.type (((stL s).drop f.offset).take (Tryz.prog.cellsOf f.type))) fs.toList (fun f hf' => by
    have hmem : (f.type, f.offset) ∈ fs.toList.map (fun f => (f.type, f.offset)) := List.mem_map_of_mem hf'
    rw [hf] at hmem
    have hint : (Lit.int .i64 s.count).wf = true := WalkArith.wf_i64 (by have := h.count; omega)
    simp only [List.mem_cons, Prod.mk.injEq, List.not_mem_nil, or_false] at hmem
    rcases hmem with ⟨e1, e2⟩ | ⟨e1, e2⟩ | ⟨e1, e2⟩ | ⟨e1, e2⟩ | ⟨e1, e2⟩ | ⟨e1, e2⟩ | ⟨e1, e2⟩ | ⟨e1, e2⟩ | ⟨e1, e2⟩ | ⟨e1, e2⟩ | ⟨e1, e2⟩ | ⟨e1, e2⟩
    all_goals rw [e1, e2]
    · rw [cellsOf_regs]
      have : ((stL s).drop 0).take 32 = regs s.R := by
        rw [List.drop_zero]
        unfold stL
        rw [List.take_append_of_le_length (by rw [regs_len]; omega), ← regs_len s.R, List.take_length]
      rw [this]
      exact lits_regs d s.R h.R
    · rw [cellsOf_u32, take_rest s 0 _ rfl]; exact lits_u32 _ _ h.hi
    · rw [cellsOf_u32, take_rest s 1 _ rfl]; exact lits_u32 _ _ h.lo
    · rw [cellsOf_u32, take_rest s 2 _ rfl]; exact lits_u32 _ _ h.pc
    · rw [cellsOf_u32, take_rest s 3 _ rfl]; exact lits_u32 _ _ h.next
    · rw [cellsOf_bool, take_rest s 4 _ rfl]; exact lits_bool _ _
    · rw [cellsOf_u32, take_rest s 5 _ rfl]; exact lits_u32 _ _ h.status
    · rw [cellsOf_u32, take_rest s 6 _ rfl]; exact lits_u32 _ _ h.cause
    · rw [cellsOf_u32, take_rest s 7 _ rfl]; exact lits_u32 _ _ h.epc
    · rw [cellsOf_u32, take_rest s 8 _ rfl]; exact lits_u32 _ _ h.bad
    · rw [cellsOf_u32, take_rest s 9 _ rfl]; exact lits_u32 _ _ h.compare
    · rw [cellsOf_int, take_rest s 10 _ rfl]; exact lits_int _ Tryz.underlying3 _ hint)
  obtain ⟨L, hL⟩ := hm
  refine ⟨L.flatten, ?_⟩
  unfold Program.keyLits
  rw [hu]
  simp only
  rw [if_pos ⟨by rw [cellsOf_st]; simp [stL, regs, restC], hn⟩, hL]
  rfl
theorem equal_same {t : TypeId} {m : Nat} (hm : m ≤ 10000) (hk : Tryz.prog.keyTypeAt m t = true) (w : World) (cs : List Value) (hf : (Value.agg cs.toArray).formed Tryz.prog t = true) (hL : ∃ L, Tryz.prog.keyLits 5 t cs = some L) :
    (Op.equal t (.agg cs.toArray) (.agg cs.toArray)).run Tryz.prog w = .ok true w := by
  obtain ⟨L, hL⟩ := hL
  obtain ⟨r, hr, hi⟩ := run_equalIn_deep (P := Tryz.prog) (10000 - m) m t hk w 5 5 _ _ L L hf hf hL hL
  rw [show 10000 - m + m = 10000 by omega] at hr
  rw [hi.2 rfl] at hr
  exact hr
theorem equal_regs (w : World) (R : Nat → Int) (h : ∀ k, k < 32 → Cp.W (R k)) : (Op.equal 24 (.agg (regs R).toArray) (.agg (regs R).toArray)).run Tryz.prog w = .ok true w :=
  equal_same (m := 3) (by omega) (by kernel_rfl) w _ (by
    unfold Value.formed
    rw [Tryz.underlying24, cellsOf_regs]
    simp [regs]) (lits_regs 3 R h)
theorem equal_st (w : World) (s : Cp.St) (h : Cp.Rng s) : (Op.equal 26 (.agg (stL s).toArray) (.agg (stL s).toArray)).run Tryz.prog w = .ok true w :=
  equal_same (m := 4) (by omega) (by kernel_rfl) w _ (by
    unfold Value.formed
    rw [Tryz.underlying26, cellsOf_st]
    simp [stL, regs, restC]) (lits_st 2 s h)
/-- '!=' and '==' of two values of cells that are the same -/
theorem run_bin_agg {P : Program} (o : BinOp) (ho : o = .neq ∨ o = .eql) (t : TypeId) (x y : Operand) (cs : Array Value) (w : World) (hg : P.eqGuardType P.depth t = false) (he : (Op.equal t (.agg cs) (.agg cs)).run P w = .ok true w) :
    (do eqGuard o t x y (.agg cs) (.agg cs); binOp o t (.agg cs) (.agg cs) : Sem Value).run P w = .ok (.bool (if o = .eql then true else false)) w := by
  rcases ho with rfl | rfl
  · have h1 : (eqGuard .neq t x y (.agg cs) (.agg cs)).run P w = .ok () w := by
      simp [eqGuard, Sem.run_bind, run_program, hg]
    simp [Sem.run_bind, h1, binOp, he]
  · have h1 : (eqGuard .eql t x y (.agg cs) (.agg cs)).run P w = .ok () w := by
      simp [eqGuard, Sem.run_bind, run_program, hg]
    simp [Sem.run_bind, h1, binOp, he]
theorem wp_bin_agg {P : Program} {op : Oper} {a : Act} {w : World} {K : Act → World → Prop} {Q : Exit → Act → World → Prop} (o : BinOp) (hoo : o = .neq ∨ o = .eql) (t t' : TypeId) (x y : Operand) (ho : op.op = .binOp o t x y t') (cs : Array Value)
    (hx : a.eval x = .agg cs) (hy : a.eval y = .agg cs) (hg : P.eqGuardType P.depth t = false) (he : (Op.equal t (.agg cs) (.agg cs)).run P w = .ok true w) (h : K (a.put op.dst (.bool (if o = .eql then true else false))) w) : op.wp P a w K Q := by
  have hr := run_bin_agg o hoo t x y cs w hg he
  unfold Oper.wp execOp
  simp only [ho, hx, hy]
  rw [Sem.run_bind, hr]
  exact h
theorem eqg_regs : Tryz.prog.eqGuardType Tryz.prog.depth 24 = false := by kernel_rfl
theorem eqg_st : Tryz.prog.eqGuardType Tryz.prog.depth 26 = false := by kernel_rfl
end Go.Proofs.YtknhfobcejpmeaaGreatDoor

/- StPutD -/
/- A state of the processor copied: loaded whole, stored whole into a new block. -/
namespace Go.Proofs.YtknhfobcejpmeaaGreatDoor
open Go.RowKit Go.Deep
set_option linter.unusedVariables false

theorem stL_len (s : Cp.St) : (stL s).length = 43 := by simp [stL, regs, restC]
theorem size_st : (Tryz.prog.info? 26).map (·.size) = some 43 := by kernel_rfl
theorem StAt.range {w : World} {sb : Nat} {s : Cp.St} (h : StAt w sb s) : w.rangeAt sb 0 (stL s) := fun j v hv => by
  unfold World.cell?
  rw [h]
  simpa using hv
theorem stL_one (s : Cp.St) : (stL s).toArray.all (·.oneCell') = true := by
  refine all_oneCell_toArray fun v hv => ?_
  unfold stL at hv
  rcases List.mem_append.1 hv with h | h
  · unfold regs at h
    obtain ⟨k, _, rfl⟩ := List.mem_map.1 h
    rfl
  · unfold restC at h
    simp only [List.mem_cons, List.not_mem_nil, or_false] at h
    rcases h with rfl | rfl | rfl | rfl | rfl | rfl | rfl | rfl | rfl | rfl | rfl <;> rfl
/-- THE LOAD of a whole state -/
theorem wpList_load_st {ops : Array Oper} {rest : List Oper} {op : Oper} {a : Act} {w : World} {Q : Exit → Act → World → Prop} (hgd : op.guard = none) (x : Operand) (ho : op.op = .load 26 x) (sb : Nat) (s : Cp.St) (h : StAt w sb s)
    (hx : a.eval x = .pointer (some ⟨sb, 0, none⟩)) (hk : wpList Tryz.prog ops Q rest (a.put op.dst (.agg (stL s).toArray)) w) : wpList Tryz.prog ops Q (op :: rest) a w :=
  wpList_load_mid hgd _ x ho sb 0 hx (stL s) _ h.range Tryz.underlying26 rfl (by rw [stL_len]; exact size_st) hk
theorem size_regs : (Tryz.prog.info? 24).map (·.size) = some 32 := by kernel_rfl
theorem StAt.rangeR {w : World} {sb : Nat} {s : Cp.St} (h : StAt w sb s) : w.rangeAt sb 0 (regs s.R) := fun j v hv => by
  have hj : j < 32 := by have := (List.getElem?_eq_some_iff.1 hv).1; rwa [regs_len] at this
  refine h.range j v ?_
  unfold stL
  rw [List.getElem?_append_left (by rw [regs_len]; exact hj)]
  exact hv
/-- the load of the registers -/
theorem wpList_load_regs {ops : Array Oper} {rest : List Oper} {op : Oper} {a : Act} {w : World} {Q : Exit → Act → World → Prop} (hgd : op.guard = none) (x : Operand) (ho : op.op = .load 24 x) (sb : Nat) (s : Cp.St) (R : Nat → Int) (hR : s.R = R) (h : StAt w sb s)
    (hx : a.eval x = .pointer (some ⟨sb, 0, none⟩)) (hk : wpList Tryz.prog ops Q rest (a.put op.dst (.agg (regs R).toArray)) w) : wpList Tryz.prog ops Q (op :: rest) a w := by
  subst hR
  exact wpList_load_mid hgd _ x ho sb 0 hx (regs s.R) _ h.rangeR Tryz.underlying24 rfl (by rw [regs_len]; exact size_regs) hk
theorem wpList_bin_regs {ops : Array Oper} {rest : List Oper} {op : Oper} {a : Act} {w : World} {Q : Exit → Act → World → Prop} (hgd : op.guard = none) (o : BinOp) (hoo : o = .neq ∨ o = .eql) (t' : TypeId) (x y : Operand) (ho : op.op = .binOp o 24 x y t') (R : Nat → Int) (hR : ∀ k, k < 32 → Cp.W (R k))
    (hx : a.eval x = .agg (regs R).toArray) (hy : a.eval y = .agg (regs R).toArray) (hk : wpList Tryz.prog ops Q rest (a.put op.dst (.bool (if o = .eql then true else false))) w) : wpList Tryz.prog ops Q (op :: rest) a w :=
  wpList_plain hgd fun _ hK => wp_bin_agg o hoo _ t' x y ho _ hx hy eqg_regs (equal_regs w R hR) (hK _ _ hk)
theorem wpList_bin_st {ops : Array Oper} {rest : List Oper} {op : Oper} {a : Act} {w : World} {Q : Exit → Act → World → Prop} (hgd : op.guard = none) (o : BinOp) (hoo : o = .neq ∨ o = .eql) (t' : TypeId) (x y : Operand) (ho : op.op = .binOp o 26 x y t') (s : Cp.St) (hs : Cp.Rng s)
    (hx : a.eval x = .agg (stL s).toArray) (hy : a.eval y = .agg (stL s).toArray) (hk : wpList Tryz.prog ops Q rest (a.put op.dst (.bool (if o = .eql then true else false))) w) : wpList Tryz.prog ops Q (op :: rest) a w :=
  wpList_plain hgd fun _ hK => wp_bin_agg o hoo _ t' x y ho _ hx hy eqg_st (equal_st w s hs) (hK _ _ hk)
theorem wpList_neq_regs {ops : Array Oper} {rest : List Oper} {op : Oper} {a : Act} {w : World} {Q : Exit → Act → World → Prop} (hgd : op.guard = none) (t' : TypeId) (x y : Operand) (ho : op.op = .binOp .neq 24 x y t') (R : Nat → Int) (hR : ∀ k, k < 32 → Cp.W (R k))
    (hx : a.eval x = .agg (regs R).toArray) (hy : a.eval y = .agg (regs R).toArray) (hk : wpList Tryz.prog ops Q rest (a.put op.dst (.bool false)) w) : wpList Tryz.prog ops Q (op :: rest) a w :=
  wpList_bin_regs hgd .neq (.inl rfl) t' x y ho R hR hx hy hk
theorem setCells_block {b : Nat} {T : TypeId} {f : Nat × Nat} : ∀ (vs : List Value) (o : Nat) (w : World) (cs : Array Value), w.heap[b]? = some (.cells cs T f) →
    ∃ cs', (w.setCells b o vs).heap[b]? = some (.cells cs' T f) ∧ cs'.size = cs.size ∧ ∀ j, cs'[j]? = if o ≤ j ∧ j < o + vs.length ∧ j < cs.size then vs[j - o]? else cs[j]?
  | [], o, w, cs, h => ⟨cs, h, rfl, fun j => by rw [if_neg (by simp; omega)]⟩
  | v :: r, o, w, cs, h => by
    obtain ⟨cs', h1, h2, h3⟩ := setCells_block r (o + 1) (w.setCell ⟨b, o, none⟩ v) _ (set_block h o v)
    refine ⟨cs', h1, by rw [h2]; simp, fun j => ?_⟩
    rw [h3 j]
    simp only [Array.size_setIfInBounds, List.length_cons]
    by_cases h4 : o + 1 ≤ j ∧ j < o + 1 + r.length ∧ j < cs.size
    · rw [if_pos h4, if_pos (by omega), show j - o = (j - (o + 1)) + 1 by omega, List.getElem?_cons_succ]
    · rw [if_neg h4]
      by_cases h5 : o = j
      · subst h5
        by_cases h6 : o < cs.size
        · rw [if_pos (by omega)]
          simp [h6]
        · rw [if_neg (by omega), Array.getElem?_eq_none (by simp; omega), Array.getElem?_eq_none (by omega)]
      · rw [if_neg (by omega), Array.getElem?_setIfInBounds_ne h5]
theorem keeps_setCells (b : Nat) : ∀ (vs : List Value) (o : Nat) (w : World), Keeps (· = b) w (w.setCells b o vs)
  | [], _, w => Keeps.refl _ w
  | v :: r, o, w => (Keeps.one w b o v).trans (keeps_setCells b r (o + 1) _) (fun _ _ h => h)
/-- a state stored whole -/
theorem StAt.putAll {w : World} {b : Nat} {cs : Array Value} (h : w.heap[b]? = some (.cells cs 26 (0, 0))) (hc : cs.size = 43) (s : Cp.St) : StAt (w.setCells b 0 (stL s)) b s := by
  obtain ⟨cs', h1, h2, h3⟩ := setCells_block (stL s) 0 w cs h
  have he : cs' = (stL s).toArray := Array.ext_getElem? fun j => by
    rw [h3 j, stL_len, hc]
    by_cases hj : j < 43
    · rw [if_pos (by omega)]
      simp
    · rw [if_neg (by omega), Array.getElem?_eq_none (by omega), List.getElem?_toArray, List.getElem?_eq_none (by rw [stL_len]; omega)]
  subst he
  exact h1
theorem wpList_store_st {ops : Array Oper} {rest : List Oper} {op : Oper} {a : Act} {w : World} {Q : Exit → Act → World → Prop} (hgd : op.guard = none) (x y : Operand) (ho : op.op = .store 26 x y) (b : Nat) (cs : Array Value) (s : Cp.St) (h : w.heap[b]? = some (.cells cs 26 (0, 0))) (hc : cs.size = 43)
    (hx : a.eval x = .pointer (some ⟨b, 0, none⟩)) (hy : a.eval y = .agg (stL s).toArray) (hk : ∀ w', StAt w' b s → Keeps (· = b) w w' → wpList Tryz.prog ops Q rest (a.put op.dst undef) w') : wpList Tryz.prog ops Q (op :: rest) a w :=
  wpList_store_mid hgd _ x y ho b 0 (stL s).toArray hx hy (fun j hj => by
    have hj2 : j < 43 := by simpa [stL_len] using hj
    refine ⟨?_, frozen_of_block h _⟩
    unfold World.cell?
    rw [h]
    simp [hc, hj2]) (by simpa [stL_len] using size_st) (stL_one s) (hk _ (StAt.putAll h hc s) (keeps_setCells b _ 0 w))
end Go.Proofs.YtknhfobcejpmeaaGreatDoor

/- Place2 -/
/- Places as they come in; the walks of longPlace, memory, placed. -/
namespace Go.Proofs.YtknhfobcejpmeaaGreatDoor
open Go.RowKit Go.Deep
set_option linter.unusedVariables false
set_option linter.unusedSimpArgs false

/-- a place's cells -/
def placeL (s : Cp.St) (A : Option Addr) (n cap : Nat) (page : Int) : List Value := stL s ++ [.slice A n cap, .int .i64 page]
/-- a place in a block of its own -/
structure PlaceAt (w : World) (x : Nat) (s : Cp.St) (A : Option Addr) (n cap : Nat) (page : Int) : Prop where
  blk : w.heap[x]? = some (.cells (placeL s A n cap page).toArray 29 (0, 0))
theorem PlaceAt.new (w : World) (s : Cp.St) (A : Option Addr) (n cap : Nat) (page : Int) : PlaceAt (w.alloc (.cells (placeL s A n cap page).toArray 29)) w.heap.size s A n cap page := ⟨blk_alloc_new _ _⟩
theorem PlaceAt.lt {w : World} {x : Nat} {s : Cp.St} {A : Option Addr} {n cap : Nat} {page : Int} (h : PlaceAt w x s A n cap page) : x < w.heap.size := (Array.getElem?_eq_some_iff.1 h.blk).1
theorem PlaceAt.keep {S : Nat → Prop} {w w' : World} {x : Nat} {s : Cp.St} {A : Option Addr} {n cap : Nat} {page : Int} (h : PlaceAt w x s A n cap page) (k : Keeps S w w') (hs : ¬ S x) : PlaceAt w' x s A n cap page := ⟨(k.block x h.lt hs).trans h.blk⟩
theorem PlaceAt.range {w : World} {x : Nat} {s : Cp.St} {A : Option Addr} {n cap : Nat} {page : Int} (h : PlaceAt w x s A n cap page) : w.rangeAt x 0 (placeL s A n cap page) := fun j v hv => by
  unfold World.cell?
  rw [h.blk]
  simpa using hv
theorem placeL_st (s : Cp.St) (A : Option Addr) (n cap : Nat) (page : Int) (j : Nat) (hj : j < 43) : (placeL s A n cap page)[j]? = (stL s)[j]? := by
  unfold placeL
  rw [List.getElem?_append_left (by rw [stL_len]; exact hj)]
theorem PlaceAt.rangeS {w : World} {x : Nat} {s : Cp.St} {A : Option Addr} {n cap : Nat} {page : Int} (h : PlaceAt w x s A n cap page) : w.rangeAt x 0 (stL s) := fun j v hv => by
  have hj : j < 43 := by have := (List.getElem?_eq_some_iff.1 hv).1; rwa [stL_len] at this
  exact h.range j v (by rw [placeL_st s A n cap page j hj]; exact hv)
theorem PlaceAt.count {w : World} {x : Nat} {s : Cp.St} {A : Option Addr} {n cap : Nat} {page : Int} (h : PlaceAt w x s A n cap page) : w.cell? ⟨x, 42, none⟩ = some (.int .i64 s.count) := by
  have := h.range 42 (.int .i64 s.count) (by
    rw [placeL_st s A n cap page 42 (by omega)]
    unfold stL
    rw [List.getElem?_append_right (by rw [regs_len]; omega), regs_len]
    rfl)
  simpa using this
theorem PlaceAt.tail {w : World} {x : Nat} {s : Cp.St} {A : Option Addr} {n cap : Nat} {page : Int} (h : PlaceAt w x s A n cap page) : w.cell? ⟨x, 43, none⟩ = some (.slice A n cap) ∧ w.cell? ⟨x, 44, none⟩ = some (.int .i64 page) := by
  constructor
  · have := h.range 43 (.slice A n cap) (by
      unfold placeL
      rw [List.getElem?_append_right (by rw [stL_len]; omega), stL_len]
      rfl)
    simpa using this
  · have := h.range 44 (.int .i64 page) (by
      unfold placeL
      rw [List.getElem?_append_right (by rw [stL_len]; omega), stL_len]
      rfl)
    simpa using this
/-- what longPlace answers -/
def LongIs (w : World) (n : Nat) (c : Int) (e : Ending) (w' : World) : Prop := ∃ b, e = .returned (.bool b) ∧ (b = false → n ≤ 200 ∧ 0 ≤ c ∧ c ≤ 1099511627776) ∧ Keeps (fun _ => False) w w'
set_option maxHeartbeats 1000000 in
set_option maxRecDepth 100000 in
theorem longPlace_any (s : Cp.St) (A : Option Addr) (n cap : Nat) (page : Int) (w : World) :
    Calls Tryz.prog 8 #[.agg (placeL s A n cap page).toArray] w (LongIs w n s.count) := by
  have HN := Lib.hid (PlaceAt.new w s A n cap page)
  have HK := Lib.hid ((Keeps.refl (fun _ => False) w).alloc (.cells (placeL s A n cap page).toArray 29))
  go_enter Tryz.func8, Tryz.ntmps8
  go_upto_region 1 with fail
  obtain ⟨t43, _⟩ := HN.out.tail
  have t42 := HN.out.count
  have HK1 := Lib.hid HK.out
  clear HN HK
  generalize w.alloc _ = w1 at *
  generalize w.heap.size = x at *
  by_cases h1 : 200 < n
  · have t1 : decide ((200 : Int) < (n : Int)) = true := decide_eq_true (by omega)
    go_wp2_with fail
    go_ret
    exact ⟨true, rfl, (fun h => by cases h), HK1.out⟩
  · have t1 : decide ((200 : Int) < (n : Int)) = false := decide_eq_false (by omega)
    by_cases h2 : s.count < 0
    · have t2 : decide (s.count < 0) = true := decide_eq_true h2
      go_wp2_with fail
      go_ret
      exact ⟨true, rfl, (fun h => by cases h), HK1.out⟩
    · have t2 : decide (s.count < 0) = false := decide_eq_false h2
      by_cases h3 : 1099511627776 < s.count
      · have t3 : decide (1099511627776 < s.count) = true := decide_eq_true h3
        go_wp2_with fail
        go_ret
        exact ⟨true, rfl, (fun h => by cases h), HK1.out⟩
      · have t3 : decide (1099511627776 < s.count) = false := decide_eq_false h3
        have HC := Lib.hid (show n ≤ 200 ∧ 0 ≤ s.count ∧ s.count ≤ 1099511627776 by omega)
        go_wp2_with fail
        go_ret
        exact ⟨false, rfl, (fun _ => HC.out), HK1.out⟩
/-- what memory answers -/
def MemIs (w : World) (n : Nat) (ws : Nat → Int) (page : Int) (e : Ending) (w' : World) : Prop :=
  ∃ r pb pw ph, e = .returned (.pointer (some ⟨r, 0, none⟩)) ∧ RamAt w' r pb pw ph 16384 (ramOf (min n 4096) ws) ∧ WatchAt w' pw (watchF page) ∧ w'.heap[ph]? = some (.map #[] 0) ∧ (w.heap.size ≤ r ∧ w.heap.size ≤ pb ∧ w.heap.size ≤ pw ∧ w.heap.size ≤ ph) ∧ Keeps (fun _ => False) w w'
set_option maxHeartbeats 1000000 in
set_option maxRecDepth 100000 in
theorem memory_any (s : Cp.St) (A : Option Addr) (n cap : Nat) (page : Int) (ws : Nat → Int) (w : World) (ea : Nat → Addr) (E : ErrsC w ea) (hR : Reads w A n cap (fun i => .int .u32 (ws i))) (hc : cap ≤ 9223372036854775807) (hr : ∀ i, i < n → 0 ≤ ws i ∧ ws i < 4294967296) :
    Calls Tryz.prog 25 #[.agg (placeL s A n cap page).toArray] w (MemIs w n ws page) := by
  have HE := Lib.hid E
  have HRD := Lib.hid hR
  have HRR := Lib.hid hr
  have HN := Lib.hid (PlaceAt.new w s A n cap page)
  have HK := Lib.hid ((Keeps.refl (fun _ => False) w).alloc (.cells (placeL s A n cap page).toArray 29))
  clear E hR hr
  go_enter Tryz.func25, Tryz.ntmps25
  go_upto_region 1 with fail
  have HP1 := Lib.hid HN.out
  obtain ⟨t43, t44⟩ := HN.out.tail
  have HK1 := Lib.hid HK.out
  clear HN HK
  generalize w.alloc _ = w1 at *
  obtain ⟨x, hx⟩ : ∃ x, w.heap.size = x := ⟨_, rfl⟩
  rw [hx] at t43 t44 HP1 ⊢
  clear hx
  go_wp2_with fail
  refine (new_any n cap A w1 ws (HRD.out.keep HK1.out (fun _ _ _ h => h)) hc HRR.out).mono ?_
  rintro e w2 ⟨rfl, hN2⟩
  have HN2 := Lib.hid hN2
  have HR2 := Lib.hid hN2.ram
  have HK2 := Lib.hid (HK1.out.trans hN2.keeps (fun _ _ h => h))
  have HW2 := Lib.hid hN2.watch
  have HT2 := Lib.hid hN2.hits
  have HLO := Lib.hid HK1.out.size
  have hP2 := HP1.out.keep hN2.keeps (fun h => h)
  clear hN2 t43 t44
  obtain ⟨t43, t44⟩ := hP2.tail
  have hne : (Value.pointer (some ⟨w1.heap.size + 3, 0, none⟩)) ≠ .pointer none := by intro h; cases h
  have HWA := Lib.hid (watch_any (w1.heap.size + 3) w1.heap.size (w1.heap.size + 1) (w1.heap.size + 2) 16384 _ page w2 ea (HE.out.quiet HK2.out) HR2.out HW2.out)
  clear hP2 hne
  go_wp2_with fail
  refine HWA.out.mono ?_
  rintro e w3 ⟨⟨ev, rfl⟩, hW3, hk3⟩
  have HW3 := Lib.hid hW3
  have HR3 := Lib.hid (HR2.out.keep hk3 (fun e => HR2.out.apart.2.1 e) (fun e => HR2.out.apart.2.2.2.1 e))
  have HT3 := Lib.hid (hk3.map HT2.out (fun e => HR2.out.apart.2.2.2.2.2 (Eq.symm e)))
  have HK3 := Lib.hid (HK2.out.trans hk3 (fun b hb e => by have := HLO.out; omega))
  clear hW3 hk3 t43 t44
  go_wp2_with fail
  go_ret
  exact ⟨_, _, _, _, rfl, HR3.out, HW3.out, HT3.out, by have := HLO.out; omega, HK3.out⟩
def st0L : List Value := stL ⟨fun _ => 0, 0, 0, 0, 0, false, 0, 0, 0, 0, 0, 0⟩
theorem st0_lit : st0L.toArray = #[.int .u32 0, .int .u32 0, .int .u32 0, .int .u32 0, .int .u32 0, .int .u32 0, .int .u32 0, .int .u32 0, .int .u32 0, .int .u32 0, .int .u32 0, .int .u32 0, .int .u32 0, .int .u32 0, .int .u32 0, .int .u32 0, .int .u32 0, .int .u32 0, .int .u32 0, .int .u32 0, .int .u32 0, .int .u32 0, .int .u32 0, .int .u32 0, .int .u32 0, .int .u32 0, .int .u32 0, .int .u32 0, .int .u32 0, .int .u32 0, .int .u32 0, .int .u32 0, .int .u32 0, .int .u32 0, .int .u32 0, .int .u32 0, .bool false, .int .u32 0, .int .u32 0, .int .u32 0, .int .u32 0, .int .u32 0, .int .i64 0] := by kernel_rfl
/-- a place's state, as a code at pc begins -/
def Ir.placed (s : Cp.St) (pc : Int) : Cp.St := { s with R := fun k => if k = 0 then 0 else s.R k, pc := pc, next := (pc + 4) % 4294967296, slot := false }
set_option maxHeartbeats 2000000 in
set_option maxRecDepth 100000 in
theorem placed_any (s : Cp.St) (A : Option Addr) (n cap : Nat) (page pc : Int) (w : World) (hpc : 0 ≤ pc ∧ pc < 4294967296) :
    Calls Tryz.prog 24 #[.agg (placeL s A n cap page).toArray, .int .u32 pc] w fun e w' => e = .returned (.agg (stL (Ir.placed s pc)).toArray) ∧ Keeps (fun _ => False) w w' := by
  have HN := Lib.hid (PlaceAt.new w s A n cap page)
  have HK := Lib.hid ((Keeps.refl (fun _ => False) w).alloc (.cells (placeL s A n cap page).toArray 29))
  obtain ⟨sp, hsp⟩ : ∃ sp, Ir.placed s pc = sp := ⟨_, rfl⟩
  rw [hsp]
  have HSP := Lib.hid hsp
  clear hsp
  go_enter Tryz.func24, Tryz.ntmps24
  go_upto_region 1 with fail
  obtain ⟨rb, hrb⟩ : ∃ b, w.heap.size + 1 = b := ⟨_, rfl⟩
  have hb0 := nblk_alloc w (.cells (placeL s A n cap page).toArray 29)
  have hPA := HN.out
  have hKA := HK.out
  clear HN HK
  generalize w.alloc _ = w1 at *
  have HRB := Lib.hid (show w.heap.size + 1 = rb ∧ w1.heap.size = rb from ⟨hrb, by omega⟩)
  have hR := blk_alloc_new w1 (.cells st0L.toArray 26)
  have hKB := (Keeps.refl (fun _ => False) w1).alloc (.cells st0L.toArray 26)
  rw [HRB.out.2] at hR
  rw [hrb]
  rw [st0_lit] at hR hKB
  obtain ⟨x, hx⟩ : ∃ x, w.heap.size = x := ⟨_, rfl⟩
  rw [hx] at hPA ⊢
  have HX := Lib.hid (show x + 1 = rb from by omega)
  have HWX := Lib.hid hx
  clear hb0 hrb hx
  generalize w1.alloc _ = w2 at *
  rw [← st0_lit] at hR
  have HR2 := Lib.hid hR
  have HP2 := Lib.hid (hPA.keep hKB (fun h => h))
  have HK2 := Lib.hid (hKA.trans hKB (fun _ _ h => h))
  clear hR hPA hKA hKB
  have HSZ := Lib.hid (show (Tryz.prog.info? 26).map (·.size) = some (stL s).length by rw [stL_len]; exact size_st)
  go_wp2_with (first
    | (with_reducible refine wpList_load_mid rfl _ _ rfl x 0 rfl (stL s) _ HP2.out.rangeS Tryz.underlying26 rfl HSZ.out ?_)
    | (with_reducible refine wpList_store_st rfl _ _ rfl _ _ s (blk_alloc_new _ _) (by simp) rfl rfl ?_))
  intro w3 hS3 hk3
  have hk3' := ((Keeps.refl (fun _ => False) w2).alloc _).trans hk3 (fun j hj e => absurd (show j = w2.heap.size from e) (Nat.ne_of_lt hj))
  have HS3 := Lib.hid hS3
  have HK3 := Lib.hid (HK2.out.trans hk3' (fun _ _ h => h))
  have HNE := Lib.hid (show rb < w2.heap.size from (Array.getElem?_eq_some_iff.1 HR2.out).1)
  have HR3 := Lib.hid ((hk3'.block rb HNE.out (fun h => h)).trans HR2.out)
  have HWY := Lib.hid (show w.heap.size ≤ w2.heap.size from HK2.out.size)
  obtain ⟨y, hy⟩ : ∃ y, w2.heap.size = y := ⟨_, rfl⟩
  rw [hy] at HS3 HNE HWY
  have HY := Lib.hid hy
  clear hS3 hk3 hk3'
  rw [hy]
  clear hy
  have q0 := HS3.out.frozen 0
  have q1 := HS3.out.frozen 34
  have q2 := HS3.out.frozen 35
  have q3 := HS3.out.frozen 36
  have c0 := HS3.out.reg 0 (by omega)
  obtain ⟨_, _, c1, c2, c3, _⟩ := HS3.out.cells
  have hS4 : StAt ((((w3.setCell ⟨y, 0, none⟩ (.int .u32 0)).setCell ⟨y, 34, none⟩ (.int .u32 pc)).setCell ⟨y, 35, none⟩ (.int .u32 ((pc + 4) % 4294967296))).setCell ⟨y, 36, none⟩ (.bool false)) y (Ir.placed s pc) :=
    (((HS3.out.setReg 0 (by omega) 0).set (s' := { s with R := fun k => if k = 0 then 0 else s.R k, pc := pc }) 2 (.int .u32 pc) rfl rfl).set (s' := { s with R := fun k => if k = 0 then 0 else s.R k, pc := pc, next := (pc + 4) % 4294967296 }) 3 (.int .u32 ((pc + 4) % 4294967296)) rfl rfl).set (s' := Ir.placed s pc) 4 (.bool false) rfl rfl
  have hk4 : Keeps (· = y) w3 ((((w3.setCell ⟨y, 0, none⟩ (.int .u32 0)).setCell ⟨y, 34, none⟩ (.int .u32 pc)).setCell ⟨y, 35, none⟩ (.int .u32 ((pc + 4) % 4294967296))).setCell ⟨y, 36, none⟩ (.bool false)) :=
    (((Keeps.one w3 y 0 (.int .u32 0)).trans (Keeps.one _ y 34 (.int .u32 pc)) (fun _ _ h => h)).trans (Keeps.one _ y 35 (.int .u32 ((pc + 4) % 4294967296))) (fun _ _ h => h)).trans (Keeps.one _ y 36 (.bool false)) (fun _ _ h => h)
  rw [HSP.out] at hS4
  have HS4 := Lib.hid hS4
  have HK4 := Lib.hid (HK3.out.trans hk4 (fun b hb e => by have e : b = y := e; have := HWY.out; omega))
  have HR4 := Lib.hid ((hk4.block rb (Array.getElem?_eq_some_iff.1 HR3.out).1 (fun e => by have e : rb = y := e; have := HNE.out; omega)).trans HR3.out)
  clear hS4 hk4
  go_upto_region 6 with fail
  clear q0 q1 q2 q3 c0 c1 c2 c3
  generalize World.setCell (World.setCell (World.setCell (World.setCell w3 _ _) _ _) _ _) _ _ = w4 at *
  go_wp2_with (first
    | (with_reducible refine wpList_load_st rfl _ rfl y sp HS4.out rfl ?_)
    | (with_reducible refine wpList_store_st rfl _ _ rfl _ _ sp HR4.out (by simp [st0L, stL, regs, restC]) rfl rfl ?_))
  intro w5 hS5 hk5
  have HS5 := Lib.hid hS5
  have HK5 := Lib.hid (HK4.out.trans hk5 (fun b hb e => by have e : b = rb := e; have := HRB.out.1; omega))
  clear hS5 hk5
  go_wp2_with fail
  exact bodyPost_ret (results_cell_row rfl _ _ rb 26 (stL sp).toArray (0, 0) _ rfl HS5.out Tryz.underlying26 rfl (by rw [List.size_toArray, stL_len]; exact size_st)) rfl ⟨rfl, HK5.out⟩
end Go.Proofs.YtknhfobcejpmeaaGreatDoor

/- Coded -/
/- The walks of the law's coded, faulted, model; of Eval without a state. -/
namespace Go.Proofs.YtknhfobcejpmeaaGreatDoor
open Go.RowKit Go.Deep
set_option linter.unusedVariables false
set_option linter.unusedSimpArgs false

theorem ErrsAll.toC {w : World} {ea : Nat → Addr} (E : ErrsAll w ea) : ErrsC w ea := ⟨E.cell 2 (by omega) (by omega), E.cell 3 (by omega) (by omega), E.cell 4 (by omega) (by omega), E.cell 8 (by omega) (by omega)⟩
set_option maxHeartbeats 1000000 in
theorem coded_any (c : Nat) (h1 : 1 ≤ c) (h2 : c ≤ 10) (w : World) (ea : Nat → Addr) (E : ErrsAll w ea) :
    Calls Tryz.prog 22 #[errV ea c, .int .i64 c] w fun e w' => e = .returned (.bool true) ∧ Keeps (fun _ => False) w w' := by
  have HC := Lib.hid (code_sent c h1 h2 w ea E)
  unfold errV at HC ⊢
  clear E
  go_enter Tryz.func22, Tryz.ntmps22
  go_wp2_with fail
  refine HC.out.mono ?_
  rintro e w1 ⟨rfl, hk⟩
  have HK := Lib.hid hk
  clear hk
  go_wp2_with fail
  go_ret
  exact ⟨rfl, HK.out⟩
set_option maxHeartbeats 2000000 in
theorem faulted_any (f : Nat × Int) (hf : f.1 = 0 ∨ (1 ≤ f.1 ∧ f.1 ≤ 10)) (v : Value) (w : World) (ea : Nat → Addr) (E : ErrsAll w ea) (F : FaultIs w ea f v) :
    Calls Tryz.prog 12 #[v, faultV f] w fun e w' => e = .returned (.bool true) ∧ Keeps (fun _ => False) w w' := by
  obtain ⟨c, a⟩ := f
  have HB := Lib.hid (FaultBox.new w c a)
  have HK0 := Lib.hid ((Keeps.refl (fun _ => False) w).alloc (.cells #[.int .i64 c, .int .i64 a] 44))
  have HE := Lib.hid E
  clear E
  unfold faultV
  dsimp only
  simp only at hf F
  rcases F with ⟨h0, rfl⟩ | ⟨h0, h1, rfl⟩ | ⟨h0, h1, b, rfl, hb0, hb1⟩
  · obtain rfl : c = 0 := h0
    go_enter Tryz.func12, Tryz.ntmps12
    go_upto_region 1 with fail
    obtain ⟨c0, c1, _, _⟩ := HB.out.cells
    have HK1 := Lib.hid HK0.out
    generalize w.alloc _ = w1 at *
    generalize w.heap.size = x at *
    go_wp2_with fail
    refine (code_nil _).mono ?_
    rintro e w2 ⟨rfl, rfl⟩
    go_wp2_with fail
    go_ret
    exact ⟨rfl, HK1.out⟩
  · have h0 : c ≠ 0 := h0
    have h1 : a = -1 := h1
    subst h1
    have hc1 : 1 ≤ c := by omega
    have hc2 : c ≤ 10 := by omega
    have t0 : ((c : Int) == 0) = false := by simp; omega
    have HC := Lib.hid (fun w' (k : Keeps (fun _ => False) w w') => code_sent c hc1 hc2 w' ea (HE.out.quiet k))
    unfold errV at HC ⊢
    clear hf h0 hc1 hc2
    go_enter Tryz.func12, Tryz.ntmps12
    go_upto_region 1 with fail
    have HC1 := Lib.hid (HC.out _ HK0.out)
    have HB1 := Lib.hid HB.out
    have HK1 := Lib.hid HK0.out
    clear HC HB HK0
    generalize w.alloc _ = w1 at *
    obtain ⟨x, hx⟩ : ∃ x, w.heap.size = x := ⟨_, rfl⟩
    rw [hx] at HB1 ⊢
    clear hx
    go_wp2_with fail
    refine HC1.out.mono ?_
    rintro e w2 ⟨rfl, hk⟩
    obtain ⟨c0, c1, _, _⟩ := (HB1.out.keep hk (fun h => h)).cells
    have HK2 := Lib.hid (HK1.out.trans hk (fun _ _ h => h))
    clear hk
    go_wp2_with fail
    go_ret
    exact ⟨rfl, HK2.out⟩
  · have h0 : c ≠ 0 := h0
    have hc1 : 1 ≤ c := by omega
    have hc2 : c ≤ 10 := by omega
    have t0 : ((c : Int) == 0) = false := by simp; omega
    have HC := Lib.hid (fun w' (k : Keeps (fun _ => False) w w') => code_fault c hc1 hc2 b a w' ea (HE.out.quiet k) (k.cell' hb0 (fun h => h)) (k.cell' hb1 (fun h => h)))
    clear hf h0 h1 hc1 hc2 hb0 hb1
    go_enter Tryz.func12, Tryz.ntmps12
    go_upto_region 1 with fail
    have HC1 := Lib.hid (HC.out _ HK0.out)
    have HB1 := Lib.hid HB.out
    have HK1 := Lib.hid HK0.out
    clear HC HB HK0
    generalize w.alloc _ = w1 at *
    obtain ⟨x, hx⟩ : ∃ x, w.heap.size = x := ⟨_, rfl⟩
    rw [hx] at HB1 ⊢
    clear hx
    go_wp2_with fail
    refine HC1.out.mono ?_
    rintro e w2 ⟨rfl, hk⟩
    obtain ⟨c0, c1, _, _⟩ := (HB1.out.keep hk (fun h => h)).cells
    have HK2 := Lib.hid (HK1.out.trans hk (fun _ _ h => h))
    clear hk
    go_wp2_with fail
    go_ret
    exact ⟨rfl, HK2.out⟩
/-- what model answers -/
def ModelIs (w : World) (n : Nat) (ws : Nat → Int) (page : Int) (e : Ending) (w' : World) : Prop :=
  ∃ q wb tb hb, e = .returned (.pointer (some ⟨q, 0, none⟩)) ∧ RefAt w' q wb tb hb (ramOf (min n 4096) ws) (fun p => watchF page p) (fun _ => false) ∧ (w.heap.size ≤ q ∧ w.heap.size ≤ wb ∧ w.heap.size ≤ tb ∧ w.heap.size ≤ hb) ∧ Keeps (fun _ => False) w w'
set_option maxHeartbeats 2000000 in
set_option maxRecDepth 100000 in
theorem model_any (s : Cp.St) (A : Option Addr) (n cap : Nat) (page : Int) (ws : Nat → Int) (w : World) (hR : Reads w A n cap (fun i => .int .u32 (ws i))) (hc : cap ≤ 9223372036854775807) (hr : ∀ i, i < n → 0 ≤ ws i ∧ ws i < 4294967296) :
    Calls Tryz.prog 26 #[.agg (placeL s A n cap page).toArray] w (ModelIs w n ws page) := by
  have HRD := Lib.hid hR
  have HRR := Lib.hid hr
  have HN := Lib.hid (PlaceAt.new w s A n cap page)
  have HK := Lib.hid ((Keeps.refl (fun _ => False) w).alloc (.cells (placeL s A n cap page).toArray 29))
  clear hR hr
  go_enter Tryz.func26, Tryz.ntmps26
  go_upto_region 1 with fail
  have HP1 := Lib.hid HN.out
  obtain ⟨t43, t44⟩ := HN.out.tail
  have HK1 := Lib.hid HK.out
  clear HN HK
  generalize w.alloc _ = w1 at *
  obtain ⟨x, hx⟩ : ∃ x, w.heap.size = x := ⟨_, rfl⟩
  rw [hx] at t43 t44 HP1 ⊢
  have HX := Lib.hid hx
  clear hx
  go_wp2_with fail
  refine (refNew_any n cap A w1 ws (HRD.out.keep HK1.out (fun _ _ _ h => h)) hc HRR.out).mono ?_
  rintro e w2 ⟨q, wb, tb, hb, rfl, hR2, hnew, hk2⟩
  have HR2 := Lib.hid hR2
  have HNEW := Lib.hid (show w.heap.size ≤ q ∧ w.heap.size ≤ wb ∧ w.heap.size ≤ tb ∧ w.heap.size ≤ hb from by have := HK1.out.size; omega)
  have HK2 := Lib.hid (HK1.out.trans hk2 (fun _ _ h => h))
  have HP2 := Lib.hid (HP1.out.keep hk2 (fun h => h))
  clear hR2 hnew hk2 t43 t44
  obtain ⟨t43, t44⟩ := HP2.out.tail
  by_cases h : 0 ≤ page ∧ page < 64
  · obtain ⟨kp, rfl⟩ := Int.eq_ofNat_of_zero_le h.1
    have hkp : kp < 64 := by omega
    have t1 : decide ((0 : Int) ≤ (kp : Int)) = true := decide_eq_true h.1
    have t2 : decide ((kp : Int) < 64) = true := decide_eq_true h.2
    obtain ⟨h0, h64⟩ := h
    have c1 := cell_at HR2.out.raw.box 1
    have c4 := HR2.out.raw.watch.cell (i := kp) hkp
    have f1 := HR2.out.raw.watch.frozen kp
    have HW := Lib.hid (show RefAt (w2.setCell ⟨tb, kp, none⟩ (.bool true)).drew q wb tb hb (ramOf (min n 4096) ws) (fun p => watchF kp p) (fun _ => false) from
      ⟨((HR2.out.raw.setT kp true).drew).congrT (fun p hp => by
        unfold watchF
        by_cases e : p = kp
        · subst e
          rw [if_pos rfl]
          exact (decide_eq_true ⟨h0, h64, rfl⟩).symm
        · rw [if_neg e]
          exact (decide_eq_false (fun hh => e (by have := hh.2.2; omega))).symm) (fun _ _ => rfl), HR2.out.rng⟩)
    have HKF := Lib.hid (HK2.out.trans (Keeps.one w2 tb kp (.bool true)).drew (fun b hb e => by have e : b = tb := e; have := HNEW.out; omega))
    go_wp2_with fail
    go_still_tail 7, (by kernel_rfl)
    change wpList _ _ _ _ _ w2.drew
    go_wp2
    go_ret
    exact ⟨q, wb, tb, hb, rfl, HW.out, HNEW.out, HKF.out⟩
  · have HW := Lib.hid (show RefAt w2 q wb tb hb (ramOf (min n 4096) ws) (fun p => watchF page p) (fun _ => false) from
      ⟨HR2.out.raw.congrT (fun p hp => by
        unfold watchF
        exact (decide_eq_false (fun hh => h ⟨hh.1, hh.2.1⟩)).symm) (fun _ _ => rfl), HR2.out.rng⟩)
    by_cases h0 : 0 ≤ page
    · have t1 : decide (0 ≤ page) = true := decide_eq_true h0
      have t2 : decide (page < 64) = false := decide_eq_false (by omega)
      clear h
      go_wp2_with fail
      go_ret
      exact ⟨q, wb, tb, hb, rfl, HW.out, HNEW.out, HK2.out⟩
    · have t1 : decide (0 ≤ page) = false := decide_eq_false h0
      clear h
      go_wp2_with fail
      go_ret
      exact ⟨q, wb, tb, hb, rfl, HW.out, HNEW.out, HK2.out⟩
end Go.Proofs.YtknhfobcejpmeaaGreatDoor

/- TrapsL -/
/- What a right code's run answers, said plainly: it does not fall out of its end; register 0 stays. -/
namespace Go.Proofs.YtknhfobcejpmeaaGreatDoor
open Go.RowKit
set_option linter.unusedVariables false
namespace Ir
theorem ev_no_fell {m : Nat → Int} {W : Int → Bool} : ∀ (l : List Op) (c c' : Mc), l.length ≠ 0 → isOut (kn (l.getD (l.length - 1) nop).k) = true → evGo m W c l ≠ .fell c'
  | [], _, _, h, _ => absurd rfl h
  | o :: r, c, c', _, h => by
    intro he
    unfold evGo at he
    by_cases hr : r = []
    · subst hr
      have ho : isOut (kn o.k) = true := h
      unfold isOut at ho
      simp at ho
      have hl : leaves (kn o.k) = true := by unfold leaves; simp; omega
      rw [if_pos hl] at he
      have hg : ∃ pc, goesTo o (rg c.X o.a) = some pc := by
        unfold goesTo
        rw [if_neg (by omega)]
        rcases ho with ho | ho
        · rw [if_pos ho]; exact ⟨_, rfl⟩
        · rw [if_neg (by omega), if_pos ho]; exact ⟨_, rfl⟩
      obtain ⟨pc, hg⟩ := hg
      rw [hg] at he
      cases he
    · have hp : r.length ≠ 0 := by simpa using hr
      have h2 : isOut (kn (r.getD (r.length - 1) nop).k) = true := by
        have : (o :: r).getD ((o :: r).length - 1) nop = r.getD (r.length - 1) nop := by
          rw [show (o :: r).length - 1 = (r.length - 1) + 1 by rw [List.length_cons]; omega]
          rfl
        rwa [this] at h
      split at he
      · split at he
        · cases he
        · exact ev_no_fell r c c' hp h2 he
      · split at he
        · cases he
        · exact ev_no_fell r _ c' hp h2 he
theorem setX_zero {X : Nat → Int} {d v : Int} (h : 1 ≤ d) : setX X d v 0 = X 0 := by
  unfold setX
  rw [if_neg (by omega)]
theorem doOp_zero {m : Nat → Int} {W : Int → Bool} {c c' : Mc} {o : Op} (hi : OpIn o) (hl : leaves (kn o.k) = false) (h : doOp m W c o = some c') : c'.X 0 = c.X 0 := by
  have hk := hi.k
  unfold leaves at hl
  have hl := of_decide_eq_false hl
  unfold doOp at h
  split at h
  · cases h; exact setX_zero (hi.d (by omega)).1
  split at h
  · cases h; exact setX_zero (hi.d (by omega)).1
  split at h
  · split at h
    · cases h
    · cases h; rfl
  split at h
  · split at h
    · cases h; exact setX_zero (hi.d (by omega)).1
    · cases h
  split at h
  · split at h
    · cases h; rfl
    · cases h
  · cases h; exact setX_zero (hi.d (by omega)).1
theorem ev_zero {m : Nat → Int} {W : Int → Bool} : ∀ (l : List Op) (c c' : Mc) (pc : Int), (∀ o ∈ l, OpIn o) → evGo m W c l = .leave pc c' → c'.X 0 = c.X 0
  | [], _, _, _, _, h => by unfold evGo at h; cases h
  | o :: r, c, c', pc, hi, h => by
    unfold evGo at h
    split at h
    · split at h
      · cases h; rfl
      · exact ev_zero r c c' pc (fun o ho => hi o (List.mem_cons_of_mem _ ho)) h
    · rename_i hl
      split at h
      · cases h
      · rename_i c2 hd
        rw [ev_zero r c2 c' pc (fun o ho => hi o (List.mem_cons_of_mem _ ho)) h]
        exact doOp_zero (hi o (List.mem_cons_self ..)) (by simpa using hl) hd
end Ir
end Go.Proofs.YtknhfobcejpmeaaGreatDoor
