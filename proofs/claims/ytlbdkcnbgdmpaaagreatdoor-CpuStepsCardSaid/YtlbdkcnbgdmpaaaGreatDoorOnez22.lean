import Derived.Test.YtlbdkcnbgdmpaaaGreatDoorOnez20
import Derived.Test.YtlbdkcnbgdmpaaaGreatDoorOnez21
import Derived.Test.YtlbdkcnbgdmpaaaGreatDoorOnez8
import Derived.Test.YtlbdkcnbgdmpaaaGreatDoorOnez7
import Derived.DeepKeys
import Derived.Deep.MidRow
import Derived.Test.YtlbdkcnbgdmpaaaGreatDoorOnez5
import Derived.Test.YtlbdkcnbgdmpaaaGreatDoorOnez3
import Derived.Test.YtlbdkcnbgdmpaaaGreatDoorOnez2

/- CpuStepAll -/
/- cpu.one and cpu.Step at any state. -/
namespace Go.Proofs.YtlbdkcnbgdmpaaaGreatDoor
open Go.RowKit Go.Deep
set_option linter.unusedVariables false

theorem BInv.brng {b : Nat} {O : Nat → Prop} {w : World} {B : Sb} (h : BInv b O w B) : Cp.BRng B := by
  obtain ⟨r, pb, pw, ph, cp, ov, tv, h⟩ := h
  exact ⟨h.ram.rng, h.bus.rng⟩
theorem one_all (sb b : Nat) (O : Nat → Prop) (s : Cp.St) (B : Sb) (w : World) (ea : Nat → Addr) (E : Errs3 w ea) (hS : StAt w sb s) (hB : BInv b O w B) (hs : Cp.Rng s) (hl : B.l.length < 1000000) (hn : B.tn < 1000000) (hOs : ¬ O sb) :
    Calls Tryz.prog 21 #[.pointer (some ⟨sb, 0, none⟩), .pointer (some ⟨b, 0, none⟩)] w fun e w' => StepOk w w' sb b O (Cp.one s B) e := by
  by_cases hd : Cp.due s = true
  · rw [show Cp.one s B = (0, s, B) by unfold Cp.one; rw [if_pos hd]]
    refine (one_due sb b s w hS hs hd).mono ?_
    rintro e w' ⟨rfl, rfl⟩
    exact ⟨rfl, hS, O, hB, Grew.refl _ _, Keeps.refl _ _⟩
  have hd' : Cp.due s = false := by simpa using hd
  by_cases hp : rightC s.pc 4 = 0
  · rw [show Cp.one s B = Cp.ins (Cd.decOf (be B.m s.pc.toNat 4)) s B by unfold Cp.one; rw [if_neg hd, if_neg (by simpa using hp)]]
    have h16 := (rightC_ok hp).2
    have hr := be_rng B.m s.pc.toNat 4 (fun i hi => hB.brng.m _ (by have := h16.1; have := h16.2; have := hs.pc.1; omega))
    have h3 := hr.2
    simp at h3
    exact one_ins sb b O s B w ea E hS hB hs hOs hd' hp _ rfl ⟨hr.1, h3⟩ _ rfl
      (fun x w2 E2 X2 hS2 hB2 hxs hOx => do_any x sb b O _ _ _ s B w2 ea E2 X2 hS2 hB2 hs (Cd.ok_dec _) hl hn hxs hOx hOs _ (Lib.hid rfl)) _ (Lib.hid rfl)
  · rw [show Cp.one s B = (4, { s with bad := s.pc }, B) by unfold Cp.one; rw [if_neg hd, if_pos (by simpa using hp)]]
    exact one_bad sb b O s B w ea E hS hB hs hOs hd' hp
theorem step_all (sb b : Nat) (O : Nat → Prop) (s : Cp.St) (B : Sb) (w : World) (ea : Nat → Addr) (E : Errs3 w ea) (hS : StAt w sb s) (hB : BInv b O w B) (hs : Cp.Rng s) (hl : B.l.length < 1000000) (hn : B.tn < 1000000) (hOs : ¬ O sb) (hlt : sb < w.heap.size) :
    Calls Tryz.prog 11 #[.pointer (some ⟨sb, 0, none⟩), .pointer (some ⟨b, 0, none⟩)] w fun e w' => StepOk w w' sb b O (Cp.step s B) e := by
  obtain ⟨h1, h2, _⟩ := Cp.nxt_one s B hs hB.brng
  exact step_any sb b O s B w (Cp.one s B) h1.rng h2 hOs hlt (one_all sb b O s B w ea E hS hB hs hl hn hOs) (Cp.step s B) (Lib.hid rfl)
end Go.Proofs.YtlbdkcnbgdmpaaaGreatDoor

/- StEq -/
/- Two states, or two rows of registers, compared where they are the same. -/
namespace Go.Proofs.YtlbdkcnbgdmpaaaGreatDoor
open Go.RowKit Go.Deep
set_option linter.unusedVariables false

theorem mapM_some {α β : Type} (f : α → Option β) (l : List α) (h : ∀ x ∈ l, ∃ y, f x = some y) : ∃ L, l.mapM f = some L := by
  induction l with
  | nil => exact ⟨[], rfl⟩
  | cons a l ih =>
    obtain ⟨y, hy⟩ := h a (List.mem_cons_self ..)
    obtain ⟨L, hL⟩ := ih fun x hx => h x (List.mem_cons_of_mem _ hx)
    exact ⟨y :: L, by rw [List.mapM_cons, hy, hL]; rfl⟩
theorem lits_int (d : Nat) {t : TypeId} {k : IntKind} (ht : Tryz.prog.underlying t = some (.int k)) (v : Int) (hw : (Lit.int k v).wf = true) : ∃ L, Tryz.prog.keyLits (d + 1) t [.int k v] = some L := by
  refine ⟨[.int k v], ?_⟩
  unfold Program.keyLits
  rw [ht]
  simp only
  rw [if_pos (by simpa using hw)]
theorem wf_W {v : Int} (h : Cp.W v) : (Lit.int .u32 v).wf = true := by
  have e1 : IntKind.u32.min = 0 := by decide
  have e2 : IntKind.u32.max = 4294967295 := by decide
  show (decide (IntKind.u32.min ≤ v) && decide (v ≤ IntKind.u32.max)) = true
  rw [e1, e2]
  unfold Cp.W at h
  simp
  omega
theorem lits_u32 (d : Nat) (v : Int) (h : Cp.W v) : ∃ L, Tryz.prog.keyLits (d + 1) 22 [.int .u32 v] = some L := lits_int d Tryz.underlying22 v (wf_W h)
theorem lits_bool (d : Nat) (b : Bool) : ∃ L, Tryz.prog.keyLits (d + 1) 4 [.bool b] = some L := by
  refine ⟨[.bool b], ?_⟩
  unfold Program.keyLits
  rw [Tryz.underlying4]
theorem cellsOf_u32 : Tryz.prog.cellsOf 22 = 1 := by kernel_rfl
theorem cellsOf_int : Tryz.prog.cellsOf 3 = 1 := by kernel_rfl
theorem cellsOf_bool : Tryz.prog.cellsOf 4 = 1 := by kernel_rfl
theorem cellsOf_regs : Tryz.prog.cellsOf 23 = 32 := by kernel_rfl
theorem cellsOf_st : Tryz.prog.cellsOf 25 = 43 := by kernel_rfl
theorem lits_regs (d : Nat) (R : Nat → Int) (h : ∀ k, k < 32 → Cp.W (R k)) : ∃ L, Tryz.prog.keyLits (d + 2) 23 (regs R) = some L := by
  have hm := mapM_some (fun i => Tryz.prog.keyLits (d + 1) 22 (((regs R).drop (i * Tryz.prog.cellsOf 22)).take (Tryz.prog.cellsOf 22))) (List.range 32) (fun i hi => by
    have hi : i < 32 := List.mem_range.1 hi
    have : ((regs R).drop (i * Tryz.prog.cellsOf 22)).take (Tryz.prog.cellsOf 22) = [.int .u32 (R i)] := by
      rw [cellsOf_u32, Nat.mul_one]
      apply List.ext_getElem?
      intro j
      by_cases hj : j = 0
      · subst hj
        simp [regs, hi]
      · rw [List.getElem?_eq_none (by simp; omega), List.getElem?_eq_none (by simp; omega)]
    simp only [this]
    exact lits_u32 d _ (h i hi))
  obtain ⟨L, hL⟩ := hm
  refine ⟨L.flatten, ?_⟩
  unfold Program.keyLits
  rw [Tryz.underlying23]
  simp only
  rw [if_pos (by rw [regs_len, cellsOf_regs]), hL]
  rfl
theorem fields_st : ∃ fs, Tryz.prog.underlying 25 = some (.struct fs) ∧ fs.all (·.name != "_") = true ∧ fs.toList.map (fun f => (f.type, f.offset)) = [(23, 0), (22, 32), (22, 33), (22, 34), (22, 35), (4, 36), (22, 37), (22, 38), (22, 39), (22, 40), (22, 41), (3, 42)] :=
  ⟨_, Tryz.underlying25, by kernel_rfl, by kernel_rfl⟩
theorem take_rest (s : Cp.St) (i : Nat) (v : Value) (h : (restC s)[i]? = some v) : ((stL s).drop (32 + i)).take 1 = [v] := by
  have hlt := (List.getElem?_eq_some_iff.1 h).1
  have : (stL s)[32 + i]? = some v := by
    unfold stL
    rw [List.getElem?_append_right (by rw [regs_len]; omega), regs_len, show 32 + i - 32 = i by omega]
    exact h
  apply List.ext_getElem?
  intro j
  by_cases hj : j = 0
  · subst hj
    rw [List.getElem?_take_of_lt (by omega), List.getElem?_drop]
    exact this
  · rw [List.getElem?_eq_none (by simp; omega), List.getElem?_eq_none (by simp; omega)]
theorem lits_st (d : Nat) (s : Cp.St) (h : Cp.Rng s) : ∃ L, Tryz.prog.keyLits (d + 3) 25 (stL s) = some L := by
  obtain ⟨fs, hu, hn, hf⟩ := fields_st
  have hm := mapM_some (fun f => Tryz.prog.keyLits (d + 2) f.type (((stL s).drop f.offset).take (Tryz.prog.cellsOf f.type))) fs.toList (fun f hf' => by
    have hmem : (f.type, f.offset) ∈ fs.toList.map (fun f => (f.type, f.offset)) := List.mem_map_of_mem hf'
    rw [hf] at hmem
    have hint : (Lit.int .i64 s.count).wf = true := WalkArith.wf_i64 (by have := h.count; omega)
    simp only [List.mem_cons, Prod.mk.injEq, List.not_mem_nil, or_false] at hmem
    rcases hmem with ⟨e1, e2⟩ | ⟨e1, e2⟩ | ⟨e1, e2⟩ | ⟨e1, e2⟩ | ⟨e1, e2⟩ | ⟨e1, e2⟩ | ⟨e1, e2⟩ | ⟨e1, e2⟩ | ⟨e1, e2⟩ | ⟨e1, e2⟩ | ⟨e1, e2⟩ | ⟨e1, e2⟩
    all_goals rw [e1, e2]
    · rw [cellsOf_regs]
      have : ((stL s).drop 0).take 32 = regs s.R := by
        rw [List.drop_zero]
        unfold stL
        rw [List.take_append_of_le_length (by rw [regs_len]; omega), ← regs_len s.R, List.take_length]
      rw [this]
      exact lits_regs d s.R h.R
    · rw [cellsOf_u32, take_rest s 0 _ rfl]; exact lits_u32 _ _ h.hi
    · rw [cellsOf_u32, take_rest s 1 _ rfl]; exact lits_u32 _ _ h.lo
    · rw [cellsOf_u32, take_rest s 2 _ rfl]; exact lits_u32 _ _ h.pc
    · rw [cellsOf_u32, take_rest s 3 _ rfl]; exact lits_u32 _ _ h.next
    · rw [cellsOf_bool, take_rest s 4 _ rfl]; exact lits_bool _ _
    · rw [cellsOf_u32, take_rest s 5 _ rfl]; exact lits_u32 _ _ h.status
    · rw [cellsOf_u32, take_rest s 6 _ rfl]; exact lits_u32 _ _ h.cause
    · rw [cellsOf_u32, take_rest s 7 _ rfl]; exact lits_u32 _ _ h.epc
    · rw [cellsOf_u32, take_rest s 8 _ rfl]; exact lits_u32 _ _ h.bad
    · rw [cellsOf_u32, take_rest s 9 _ rfl]; exact lits_u32 _ _ h.compare
    · rw [cellsOf_int, take_rest s 10 _ rfl]; exact lits_int _ Tryz.underlying3 _ hint)
  obtain ⟨L, hL⟩ := hm
  refine ⟨L.flatten, ?_⟩
  unfold Program.keyLits
  rw [hu]
  simp only
  rw [if_pos ⟨by rw [cellsOf_st]; simp [stL, regs, restC], hn⟩, hL]
  rfl
theorem equal_same {t : TypeId} {m : Nat} (hm : m ≤ 10000) (hk : Tryz.prog.keyTypeAt m t = true) (w : World) (cs : List Value) (hf : (Value.agg cs.toArray).formed Tryz.prog t = true) (hL : ∃ L, Tryz.prog.keyLits 5 t cs = some L) :
    (Op.equal t (.agg cs.toArray) (.agg cs.toArray)).run Tryz.prog w = .ok true w := by
  obtain ⟨L, hL⟩ := hL
  obtain ⟨r, hr, hi⟩ := run_equalIn_deep (P := Tryz.prog) (10000 - m) m t hk w 5 5 _ _ L L hf hf hL hL
  rw [show 10000 - m + m = 10000 by omega] at hr
  rw [hi.2 rfl] at hr
  exact hr
theorem equal_regs (w : World) (R : Nat → Int) (h : ∀ k, k < 32 → Cp.W (R k)) : (Op.equal 23 (.agg (regs R).toArray) (.agg (regs R).toArray)).run Tryz.prog w = .ok true w :=
  equal_same (m := 3) (by omega) (by kernel_rfl) w _ (by
    unfold Value.formed
    rw [Tryz.underlying23, cellsOf_regs]
    simp [regs]) (lits_regs 3 R h)
theorem equal_st (w : World) (s : Cp.St) (h : Cp.Rng s) : (Op.equal 25 (.agg (stL s).toArray) (.agg (stL s).toArray)).run Tryz.prog w = .ok true w :=
  equal_same (m := 4) (by omega) (by kernel_rfl) w _ (by
    unfold Value.formed
    rw [Tryz.underlying25, cellsOf_st]
    simp [stL, regs, restC]) (lits_st 2 s h)
/-- '!=' and '==' of two values of cells that are the same -/
theorem run_bin_agg {P : Program} (o : BinOp) (ho : o = .neq ∨ o = .eql) (t : TypeId) (x y : Operand) (cs : Array Value) (w : World) (hg : P.eqGuardType P.depth t = false) (he : (Op.equal t (.agg cs) (.agg cs)).run P w = .ok true w) :
    (do eqGuard o t x y (.agg cs) (.agg cs); binOp o t (.agg cs) (.agg cs) : Sem Value).run P w = .ok (.bool (if o = .eql then true else false)) w := by
  rcases ho with rfl | rfl
  · have h1 : (eqGuard .neq t x y (.agg cs) (.agg cs)).run P w = .ok () w := by
      simp [eqGuard, Sem.run_bind, run_program, hg]
    simp [Sem.run_bind, h1, binOp, he]
  · have h1 : (eqGuard .eql t x y (.agg cs) (.agg cs)).run P w = .ok () w := by
      simp [eqGuard, Sem.run_bind, run_program, hg]
    simp [Sem.run_bind, h1, binOp, he]
theorem wp_bin_agg {P : Program} {op : Oper} {a : Act} {w : World} {K : Act → World → Prop} {Q : Exit → Act → World → Prop} (o : BinOp) (hoo : o = .neq ∨ o = .eql) (t t' : TypeId) (x y : Operand) (ho : op.op = .binOp o t x y t') (cs : Array Value)
    (hx : a.eval x = .agg cs) (hy : a.eval y = .agg cs) (hg : P.eqGuardType P.depth t = false) (he : (Op.equal t (.agg cs) (.agg cs)).run P w = .ok true w) (h : K (a.put op.dst (.bool (if o = .eql then true else false))) w) : op.wp P a w K Q := by
  have hr := run_bin_agg o hoo t x y cs w hg he
  unfold Oper.wp execOp
  simp only [ho, hx, hy]
  rw [Sem.run_bind, hr]
  exact h
theorem eqg_regs : Tryz.prog.eqGuardType Tryz.prog.depth 23 = false := by kernel_rfl
theorem eqg_st : Tryz.prog.eqGuardType Tryz.prog.depth 25 = false := by kernel_rfl
end Go.Proofs.YtlbdkcnbgdmpaaaGreatDoor

/- StPut -/
/- A state of the processor copied: loaded whole, stored whole into a new block. -/
namespace Go.Proofs.YtlbdkcnbgdmpaaaGreatDoor
open Go.RowKit Go.Deep
set_option linter.unusedVariables false

theorem stL_len (s : Cp.St) : (stL s).length = 43 := by simp [stL, regs, restC]
theorem size_st : (Tryz.prog.info? 25).map (·.size) = some 43 := by kernel_rfl
theorem StAt.range {w : World} {sb : Nat} {s : Cp.St} (h : StAt w sb s) : w.rangeAt sb 0 (stL s) := fun j v hv => by
  unfold World.cell?
  rw [h]
  simpa using hv
theorem stL_one (s : Cp.St) : (stL s).toArray.all (·.oneCell') = true := by
  refine all_oneCell_toArray fun v hv => ?_
  unfold stL at hv
  rcases List.mem_append.1 hv with h | h
  · unfold regs at h
    obtain ⟨k, _, rfl⟩ := List.mem_map.1 h
    rfl
  · unfold restC at h
    simp only [List.mem_cons, List.not_mem_nil, or_false] at h
    rcases h with rfl | rfl | rfl | rfl | rfl | rfl | rfl | rfl | rfl | rfl | rfl <;> rfl
/-- THE LOAD of a whole state -/
theorem wpList_load_st {ops : Array Oper} {rest : List Oper} {op : Oper} {a : Act} {w : World} {Q : Exit → Act → World → Prop} (hgd : op.guard = none) (x : Operand) (ho : op.op = .load 25 x) (sb : Nat) (s : Cp.St) (h : StAt w sb s)
    (hx : a.eval x = .pointer (some ⟨sb, 0, none⟩)) (hk : wpList Tryz.prog ops Q rest (a.put op.dst (.agg (stL s).toArray)) w) : wpList Tryz.prog ops Q (op :: rest) a w :=
  wpList_load_mid hgd _ x ho sb 0 hx (stL s) _ h.range Tryz.underlying25 rfl (by rw [stL_len]; exact size_st) hk
theorem size_regs : (Tryz.prog.info? 23).map (·.size) = some 32 := by kernel_rfl
theorem StAt.rangeR {w : World} {sb : Nat} {s : Cp.St} (h : StAt w sb s) : w.rangeAt sb 0 (regs s.R) := fun j v hv => by
  have hj : j < 32 := by have := (List.getElem?_eq_some_iff.1 hv).1; rwa [regs_len] at this
  refine h.range j v ?_
  unfold stL
  rw [List.getElem?_append_left (by rw [regs_len]; exact hj)]
  exact hv
/-- the load of the registers -/
theorem wpList_load_regs {ops : Array Oper} {rest : List Oper} {op : Oper} {a : Act} {w : World} {Q : Exit → Act → World → Prop} (hgd : op.guard = none) (x : Operand) (ho : op.op = .load 23 x) (sb : Nat) (s : Cp.St) (R : Nat → Int) (hR : s.R = R) (h : StAt w sb s)
    (hx : a.eval x = .pointer (some ⟨sb, 0, none⟩)) (hk : wpList Tryz.prog ops Q rest (a.put op.dst (.agg (regs R).toArray)) w) : wpList Tryz.prog ops Q (op :: rest) a w := by
  subst hR
  exact wpList_load_mid hgd _ x ho sb 0 hx (regs s.R) _ h.rangeR Tryz.underlying23 rfl (by rw [regs_len]; exact size_regs) hk
theorem wpList_bin_regs {ops : Array Oper} {rest : List Oper} {op : Oper} {a : Act} {w : World} {Q : Exit → Act → World → Prop} (hgd : op.guard = none) (o : BinOp) (hoo : o = .neq ∨ o = .eql) (t' : TypeId) (x y : Operand) (ho : op.op = .binOp o 23 x y t') (R : Nat → Int) (hR : ∀ k, k < 32 → Cp.W (R k))
    (hx : a.eval x = .agg (regs R).toArray) (hy : a.eval y = .agg (regs R).toArray) (hk : wpList Tryz.prog ops Q rest (a.put op.dst (.bool (if o = .eql then true else false))) w) : wpList Tryz.prog ops Q (op :: rest) a w :=
  wpList_plain hgd fun _ hK => wp_bin_agg o hoo _ t' x y ho _ hx hy eqg_regs (equal_regs w R hR) (hK _ _ hk)
theorem wpList_bin_st {ops : Array Oper} {rest : List Oper} {op : Oper} {a : Act} {w : World} {Q : Exit → Act → World → Prop} (hgd : op.guard = none) (o : BinOp) (hoo : o = .neq ∨ o = .eql) (t' : TypeId) (x y : Operand) (ho : op.op = .binOp o 25 x y t') (s : Cp.St) (hs : Cp.Rng s)
    (hx : a.eval x = .agg (stL s).toArray) (hy : a.eval y = .agg (stL s).toArray) (hk : wpList Tryz.prog ops Q rest (a.put op.dst (.bool (if o = .eql then true else false))) w) : wpList Tryz.prog ops Q (op :: rest) a w :=
  wpList_plain hgd fun _ hK => wp_bin_agg o hoo _ t' x y ho _ hx hy eqg_st (equal_st w s hs) (hK _ _ hk)
theorem wpList_neq_regs {ops : Array Oper} {rest : List Oper} {op : Oper} {a : Act} {w : World} {Q : Exit → Act → World → Prop} (hgd : op.guard = none) (t' : TypeId) (x y : Operand) (ho : op.op = .binOp .neq 23 x y t') (R : Nat → Int) (hR : ∀ k, k < 32 → Cp.W (R k))
    (hx : a.eval x = .agg (regs R).toArray) (hy : a.eval y = .agg (regs R).toArray) (hk : wpList Tryz.prog ops Q rest (a.put op.dst (.bool false)) w) : wpList Tryz.prog ops Q (op :: rest) a w :=
  wpList_bin_regs hgd .neq (.inl rfl) t' x y ho R hR hx hy hk
theorem setCells_block {b : Nat} {T : TypeId} {f : Nat × Nat} : ∀ (vs : List Value) (o : Nat) (w : World) (cs : Array Value), w.heap[b]? = some (.cells cs T f) →
    ∃ cs', (w.setCells b o vs).heap[b]? = some (.cells cs' T f) ∧ cs'.size = cs.size ∧ ∀ j, cs'[j]? = if o ≤ j ∧ j < o + vs.length ∧ j < cs.size then vs[j - o]? else cs[j]?
  | [], o, w, cs, h => ⟨cs, h, rfl, fun j => by rw [if_neg (by simp; omega)]⟩
  | v :: r, o, w, cs, h => by
    obtain ⟨cs', h1, h2, h3⟩ := setCells_block r (o + 1) (w.setCell ⟨b, o, none⟩ v) _ (set_block h o v)
    refine ⟨cs', h1, by rw [h2]; simp, fun j => ?_⟩
    rw [h3 j]
    simp only [Array.size_setIfInBounds, List.length_cons]
    by_cases h4 : o + 1 ≤ j ∧ j < o + 1 + r.length ∧ j < cs.size
    · rw [if_pos h4, if_pos (by omega), show j - o = (j - (o + 1)) + 1 by omega, List.getElem?_cons_succ]
    · rw [if_neg h4]
      by_cases h5 : o = j
      · subst h5
        by_cases h6 : o < cs.size
        · rw [if_pos (by omega)]
          simp [h6]
        · rw [if_neg (by omega), Array.getElem?_eq_none (by simp; omega), Array.getElem?_eq_none (by omega)]
      · rw [if_neg (by omega), Array.getElem?_setIfInBounds_ne h5]
theorem keeps_setCells (b : Nat) : ∀ (vs : List Value) (o : Nat) (w : World), Keeps (· = b) w (w.setCells b o vs)
  | [], _, w => Keeps.refl _ w
  | v :: r, o, w => (Keeps.one w b o v).trans (keeps_setCells b r (o + 1) _) (fun _ _ h => h)
/-- a state stored whole -/
theorem StAt.putAll {w : World} {b : Nat} {cs : Array Value} (h : w.heap[b]? = some (.cells cs 25 (0, 0))) (hc : cs.size = 43) (s : Cp.St) : StAt (w.setCells b 0 (stL s)) b s := by
  obtain ⟨cs', h1, h2, h3⟩ := setCells_block (stL s) 0 w cs h
  have he : cs' = (stL s).toArray := Array.ext_getElem? fun j => by
    rw [h3 j, stL_len, hc]
    by_cases hj : j < 43
    · rw [if_pos (by omega)]
      simp
    · rw [if_neg (by omega), Array.getElem?_eq_none (by omega), List.getElem?_toArray, List.getElem?_eq_none (by rw [stL_len]; omega)]
  subst he
  exact h1
theorem wpList_store_st {ops : Array Oper} {rest : List Oper} {op : Oper} {a : Act} {w : World} {Q : Exit → Act → World → Prop} (hgd : op.guard = none) (x y : Operand) (ho : op.op = .store 25 x y) (b : Nat) (cs : Array Value) (s : Cp.St) (h : w.heap[b]? = some (.cells cs 25 (0, 0))) (hc : cs.size = 43)
    (hx : a.eval x = .pointer (some ⟨b, 0, none⟩)) (hy : a.eval y = .agg (stL s).toArray) (hk : ∀ w', StAt w' b s → Keeps (· = b) w w' → wpList Tryz.prog ops Q rest (a.put op.dst undef) w') : wpList Tryz.prog ops Q (op :: rest) a w :=
  wpList_store_mid hgd _ x y ho b 0 (stL s).toArray hx hy (fun j hj => by
    have hj2 : j < 43 := by simpa [stL_len] using hj
    refine ⟨?_, frozen_of_block h _⟩
    unfold World.cell?
    rw [h]
    simp [hc, hj2]) (by simpa [stL_len] using size_st) (stL_one s) (hk _ (StAt.putAll h hc s) (keeps_setCells b _ 0 w))
end Go.Proofs.YtlbdkcnbgdmpaaaGreatDoor

/- RamOn -/
/- A store into the memory of a bus, past the bus. -/
namespace Go.Proofs.YtlbdkcnbgdmpaaaGreatDoor
open Go.RowKit Go.Deep
set_option linter.unusedVariables false

theorem ram_store_on (b r pb pw ph cp : Nat) (ov tv : Value) (O : Nat → Prop) (w : World) (s : Sb) (h : BIn b r pb pw ph cp ov tv O w s) (a n v : Int) (ha : 0 ≤ a) (hv : 0 ≤ v ∧ v < 4294967296) (hc : rightC a n = 0) :
    Calls Tryz.prog 9 #[.pointer (some ⟨r, 0, none⟩), .int .u32 a, .int .i64 n, .int .u32 v] w fun e w' => e = .returned .nilIface ∧ BIn b r pb pw ph cp ov tv O w' { s with m := stTo s.m a.toNat n.toNat v n.toNat } ∧ Keeps O w w' := by
  refine (store_empty r pb pw ph cp 0 s.m a n v w h.ram h.watch ha hv hc).mono fun e w' ⟨he, hR, hk⟩ => ⟨he, ?_, hk.mono (fun x _ hx => hx ▸ h.own.2.2.1)⟩
  have hap := h.ram.apart
  exact {
    bus := h.bus.keep hk h.sep.2.1 (fun g hg => (h.own1 g hg).2.2.1) (fun g hg => (h.own2 g hg).2.2.1)
    ram := hR
    watch := hk.map h.watch (by omega)
    hits := hk.map h.hits (by omega)
    own := h.own
    own1 := h.own1
    own2 := h.own2
    sep := h.sep
    lt := fun x hx => Nat.lt_of_lt_of_le (h.lt x hx) hk.size
    acc := h.acc }
end Go.Proofs.YtlbdkcnbgdmpaaaGreatDoor

/- Bused -/
/- The walk of bused. -/
namespace Go.Proofs.YtlbdkcnbgdmpaaaGreatDoor
open Go.RowKit Go.Deep
set_option linter.unusedVariables false

theorem owns_some {w : World} {base : Nat} {e : TypeId} {size : Nat} {v : Value} {n : Nat} {xs : List Value} (h : w.ownsRow base e size v n xs) (hn : 0 < n) :
    ∃ g cap, v = .slice (some ⟨g, 0, none⟩) n cap ∧ base ≤ g ∧ n ≤ cap ∧ cap ≤ maxLen ∧ ∀ j u, xs[j]? = some u → w.cell? ⟨g, j, none⟩ = some u := by
  have hc := fun g j u => World.ownsRow.cells h (g := g) (j := j) (u := u)
  rcases h.2 with ⟨h3, h4⟩ | ⟨g, cp, cur, h3, h5, h6, h7, h8, _⟩
  · omega
  · refine ⟨g, cp, h3, h5, h7, h8, fun j u hu => ?_⟩
    have := hc g j u (by rw [h3]; rfl) hu
    rwa [Addr.add_lit, Nat.zero_add] at this

end Go.Proofs.YtlbdkcnbgdmpaaaGreatDoor

/- AsBus -/
/- The walks of coded, sameTrace, asBus, Copy of a bus; new buses. -/
namespace Go.Proofs.YtlbdkcnbgdmpaaaGreatDoor
open Go.RowKit Go.Deep
set_option linter.unusedVariables false

/-- a slice of accesses as it lies -/
def TrAt (w : World) (A : Option Addr) (n cap : Nat) (tr : List Value) : Prop := n ≤ cap ∧ cap ≤ maxLen ∧ (n = 0 ∨ ∃ g, A = some ⟨g, 0, none⟩ ∧ ∀ j u, tr[j]? = some u → w.cell? ⟨g, j, none⟩ = some u)
theorem TrAt.of_owns {w : World} {base : Nat} {e : TypeId} {v : Value} {n : Nat} {xs : List Value} (h : w.ownsRow base e 4 v n xs) : ∃ A cap, v = .slice A n cap ∧ TrAt w A n cap xs := by
  by_cases h0 : n = 0
  · rcases h.2 with ⟨h1, h2⟩ | ⟨g, cap, cur, h1, h2, h3, h4, h5, _⟩
    · exact ⟨none, 0, by rw [h1, h2], by omega, by omega, .inl h0⟩
    · exact ⟨_, cap, h1, h4, h5, .inl h0⟩
  · obtain ⟨g, cap, h1, _, h3, h4, h5⟩ := owns_some h (by omega)
    exact ⟨_, cap, h1, h3, h4, .inr ⟨g, rfl, h5⟩⟩
theorem TrAt.keep {w w' : World} {A : Option Addr} {n cap : Nat} {tr : List Value} (h : TrAt w A n cap tr) (k : Keeps (fun _ => False) w w') : TrAt w' A n cap tr := by
  obtain ⟨h1, h2, h3 | ⟨g, h3, h4⟩⟩ := h
  · exact ⟨h1, h2, .inl h3⟩
  · exact ⟨h1, h2, .inr ⟨g, h3, fun j u hu => k.cell' (h4 j u hu) (fun f => f)⟩⟩

set_option maxRecDepth 100000 in
set_option maxHeartbeats 1000000 in
theorem sameTrace_same (A B : Option Addr) (n ca cb : Nat) (tr : List Value) (w : World) (h1 : TrAt w A n ca tr) (h2 : TrAt w B n cb tr) (hacc : AccRow tr n) (hn : n < 1000000) :
    Calls Tryz.prog 28 #[.slice A n ca, .slice B n cb] w fun e w' => e = .returned (.bool true) ∧ Keeps (fun _ => False) w w' := by
  have b1 := h1.1
  have b2 := h2.1
  have b3 : ca ≤ 9223372036854775807 := by have := h1.2.1; unfold maxLen at this; omega
  have b4 : cb ≤ 9223372036854775807 := by have := h2.2.1; unfold maxLen at this; omega
  have H1 := Lib.hid h1
  have H2 := Lib.hid h2
  have HA := Lib.hid hacc
  clear h1 h2 hacc
  go_enter Tryz.func28, Tryz.ntmps28
  go_wp2_with fail
  go_loopw [5] (fun s5 wr => ∃ i : Nat, i ≤ n ∧ s5 = .int .i64 i ∧ Keeps (fun _ => False) w wr) (fun s5 _ => n - (intOf s5).toNat)
  case atStart => exact ⟨0, by omega, rfl, Keeps.refl _ w⟩
  case round =>
    obtain ⟨i, hi, rfl, hK⟩ := hrel
    by_cases hlt : i < n
    · obtain ⟨c, s, a, v, e1, e2, e3, e4⟩ := HA.out.2 i hlt
      obtain ⟨ga, rfl, hca⟩ : ∃ g, A = some ⟨g, 0, none⟩ ∧ ∀ j u, tr[j]? = some u → wr.cell? ⟨g, j, none⟩ = some u := by
        obtain ⟨_, _, h3 | h3⟩ := H1.out.keep hK
        · omega
        · exact h3
      obtain ⟨gb, rfl, hcb⟩ : ∃ g, B = some ⟨g, 0, none⟩ ∧ ∀ j u, tr[j]? = some u → wr.cell? ⟨g, j, none⟩ = some u := by
        obtain ⟨_, _, h3 | h3⟩ := H2.out.keep hK
        · omega
        · exact h3
      have p1 := hca _ _ e1
      have p2 := hca _ _ e2
      have p3 := hca _ _ e3
      have p4 := hca _ _ e4
      have r1 := hcb _ _ e1
      have r2 := hcb _ _ e2
      have r3 := hcb _ _ e3
      have r4 := hcb _ _ e4
      clear hca hcb e1 e2 e3 e4
      go_wp2_with fail
      go_quiet (fail)
      go_wp2_with fail
      go_roundw
      case rel => exact ⟨i + 1, by omega, by go_num, hK.drewN _⟩
      case measure => simp [intOf]; omega
    · obtain rfl : i = n := by omega
      go_wp2_with fail
      go_ret
      exact ⟨rfl, hK⟩

/-- a new bus' state -/
def s0 (n : Nat) (ws : Nat → Int) : Sb := ⟨ramOf n ws, [], 0, 0, []⟩
theorem bus_new (len cap : Nat) (A : Option Addr) (w : World) (ws : Nat → Int) (hR : Reads w A len cap (fun i => .int .u32 (ws i))) (hc : cap ≤ 9223372036854775807) (hr : ∀ i, i < len → 0 ≤ ws i ∧ ws i < 4294967296) :
    Calls Tryz.prog 6 #[.slice A len cap] w fun e w' => ∃ b O, e = .returned (.pointer (some ⟨b, 0, none⟩)) ∧ BInv b O w' (s0 (min len 4096) ws) ∧ Keeps (fun _ => False) w w' ∧ ∀ k, O k → w.heap.size ≤ k := by
  refine (busNew_any len cap A w ws hR hc hr).mono fun e w' ⟨b, r, pb, pw, ph, he, h⟩ => ⟨b, fun k => k = b ∨ k = r ∨ k = pb ∨ k = pw ∨ k = ph, he, ⟨r, pb, pw, ph, 16384, .slice none 0 0, .slice none 0 0, ?_⟩, h.keeps, fun k hk => by have := h.new; omega⟩
  exact {
    bus := h.bus
    ram := h.ram
    watch := h.watch
    hits := h.hits
    own := by simp
    own1 := fun k hk => by cases hk
    own2 := fun k hk => by cases hk
    sep := h.apart
    lt := fun k hk => by
      have g1 := (Array.getElem?_eq_some_iff.1 h.bus.box).1
      have g2 := (Array.getElem?_eq_some_iff.1 h.ram.box).1
      have g3 := h.ram.bytes.lt
      have g4 := (Array.getElem?_eq_some_iff.1 h.watch).1
      have g5 := (Array.getElem?_eq_some_iff.1 h.hits).1
      omega
    acc := ⟨rfl, fun i hi => by cases hi⟩ }
theorem ref_new (len cap : Nat) (A : Option Addr) (w : World) (ws : Nat → Int) (hR : Reads w A len cap (fun i => .int .u32 (ws i))) (hc : cap ≤ 9223372036854775807) (hr : ∀ i, i < len → 0 ≤ ws i ∧ ws i < 4294967296) :
    Calls Tryz.prog 7 #[.slice A len cap] w fun e w' => ∃ b O, e = .returned (.pointer (some ⟨b, 0, none⟩)) ∧ RInv b O w' (s0 (min len 4096) ws) ∧ Keeps (fun _ => False) w w' ∧ ∀ k, O k → w.heap.size ≤ k := by
  refine (rbusNew_any len cap A w ws hR hc hr).mono fun e w' ⟨b, q, wb, tb, hb, he, hB, hQ, h1, h2, hk⟩ => ⟨b, fun k => k = b ∨ k = q ∨ k = wb ∨ k = tb ∨ k = hb, he, ⟨q, wb, tb, hb, .slice none 0 0, ?_⟩, hk, fun k hk => by omega⟩
  exact {
    bus := hB
    ram := hQ
    own := by simp
    own2 := fun k hk => by cases hk
    sep := h2
    lt := fun k hk => by
      have g1 := (Array.getElem?_eq_some_iff.1 hB.box).1
      have g2 := (Array.getElem?_eq_some_iff.1 hQ.raw.box).1
      have g3 := hQ.raw.words.lt
      have g4 := hQ.raw.watch.lt
      have g5 := hQ.raw.hit.lt
      omega
    acc := ⟨rfl, fun i hi => by cases hi⟩ }

/-- what a walk wants of the reference's bus -/
theorem RIn.cells {b q wb tb hb : Nat} {tv : Value} {O : Nat → Prop} {w : World} {s : Sb} (h : RIn b q wb tb hb tv O w s) :
    w.cell? ⟨b, 0, none⟩ = some (.pointer (some ⟨q, 0, none⟩)) ∧ w.cell? ⟨b, 1, none⟩ = some (.string ⟨s.l.toArray⟩) ∧ w.cell? ⟨b, 2, none⟩ = some (.int .u32 s.lamp) ∧ w.cell? ⟨b, 3, none⟩ = some tv ∧ w.cell? ⟨q, 0, none⟩ = some (.slice (some ⟨wb, 0, none⟩) 4096 4096) := by
  refine ⟨?_, ?_, ?_, ?_, ?_⟩
  · simp [World.cell?, h.bus.box]
  · simp [World.cell?, h.bus.box]
  · simp [World.cell?, h.bus.box]
  · simp [World.cell?, h.bus.box]
  · simp [World.cell?, h.ram.raw.box]
/-- memories that are alike -/
theorem alike_ram (a wb : Nat) (m : Nat → Int) (w wc : World) (hr : wc.rowIs a 22 4096 (fun i => .int .u32 (be m (4 * i) 4))) (hw : RowTo w wb 22 4096 (fun i => .int .u32 (be m (4 * i) 4))) (hk : Keeps (fun _ => False) w wc) :
    Calls Tryz.prog 30 #[.slice (some ⟨a, 0, none⟩) 4096 4096, .slice (some ⟨wb, 0, none⟩) 4096 4096] wc fun e w' => e = .returned (.int .i64 1) ∧ Keeps (fun _ => False) wc w' :=
  alike_same a wb 4096 4096 4096 (fun i => be m (4 * i) 4) wc (by omega) (by omega) (by omega) (fun i hi => hr.cell hi) (fun i hi => (hk.rowTo hw (fun h => h)).cell hi)
end Go.Proofs.YtlbdkcnbgdmpaaaGreatDoor
