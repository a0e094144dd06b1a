import Derived.Test.YtgmbladcoikffaaGreatDoorMach2
import Derived.Test.YtgmbladcoikffaaGreatDoorFacts
import Derived.Test.YtgmbladcoikffaaGreatDoorIrOp2
import Derived.Maps.OwnOps
import Derived.Maps.OwnSet
import Derived.Test.YtgmbladcoikffaaGreatDoorStDefs
import Derived.DeepKeys
import Derived.Deep.MidRow
import Derived.Test.YtgmbladcoikffaaGreatDoorStored
import Derived.Test.YtgmbladcoikffaaGreatDoorIru8
import Derived.Laws.Rows
import Derived.Test.YtgmbladcoikffaaGreatDoorKnown
import Derived.Test.YtgmbladcoikffaaGreatDoorIrus

/- Place -/
/- The walks of Watch, memory. -/
namespace Go.Proofs.YtgmbladcoikffaaGreatDoor
open Go.RowKit Go.Deep
set_option linter.unusedVariables false
set_option linter.unusedSimpArgs false

theorem zeroB (w : World) : (zeroValue 4).run Tryz.prog w = .ok (.bool false) w := by kernel_rfl
set_option maxRecDepth 100000 in
theorem watchAt_owns {w : World} {pw n : Nat} {D : DataW Unit} {f : Int → Bool} (h : w.ownsMap Tryz.prog 3 (plainElem Tryz.prog 4) pw n D) (hD : ∀ p : Int, 0 ≤ p → p < 64 → D.atKey (.int .i64 p) (.lit (.bool false)) = .lit (.bool (f p))) : WatchAt w pw f := by
  obtain ⟨es, c, hb, hf, hs, hd⟩ := h
  refine ⟨es, c, hb, fun w' hb' p h0 h1 => ?_⟩
  have hown : w'.ownsMap Tryz.prog 3 (plainElem Tryz.prog 4) pw n D := ⟨es, c, hb', hf, hs, hd⟩
  obtain ⟨v, ps, hrun, hv⟩ := hown.lookup mapK Tryz.underlying110 (zeroB w') (plainElem_bool Tryz.underlying4 false) (Maps.keyOf_int_mk Tryz.underlying3 (wf_i (show i64R p from ⟨by omega, by omega⟩)))
  rw [hD p h0 h1] at hv
  unfold plainElem at hv
  rw [Tryz.underlying4] at hv
  split at hv
  · injection hv with hv
    injection hv with hv _
    injection hv with hv
    injection hv with hv
    rw [hrun, hv]
  · rename_i e2
    cases e2
  · rename_i e2
    cases e2
  · cases hv
/-- nothing is watched -/
theorem watchAt_none {w : World} {pw c : Nat} (hb : w.heap[pw]? = some (.map #[] c)) (hc : c = 0) : WatchAt w pw (fun _ => false) := by
  subst hc
  exact ⟨#[], 0, hb, fun w' hb' p h0 h1 => look_empty w' pw 0 p hb' (wf_i (show i64R p from ⟨by omega, by omega⟩))⟩
/-- what is watched behind Watch of a page -/
def watchF (page : Int) : Int → Bool := fun q => decide (0 ≤ page ∧ page < 64 ∧ q = page)
set_option maxHeartbeats 1000000 in
set_option maxRecDepth 100000 in
theorem watch_any (r pb pw ph cp : Nat) (m : Nat → Int) (page : Int) (w : World) (ea : Nat → Addr) (E : ErrsC w ea) (R : RamAt w r pb pw ph cp m) (hm : w.heap[pw]? = some (.map #[] 0)) :
    Calls Tryz.prog 55 #[.pointer (some ⟨r, 0, none⟩), .int .i64 page, .bool true] w fun e w' => (∃ ev, e = .returned ev) ∧ WatchAt w' pw (watchF page) ∧ Keeps (· = pw) w w' := by
  have hb := E.bound
  by_cases h : 0 ≤ page ∧ page < 64
  · have t1 : decide (page < 0) = false := decide_eq_false (by omega)
    have t2 : decide (64 ≤ page) = false := decide_eq_false (by omega)
    have hbx : w.cell? ⟨r, 1, none⟩ = some (.map (some pw)) := by simp [World.cell?, R.box]
    have hown : w.ownsMap (H := Unit) Tryz.prog 3 (plainElem Tryz.prog 4) pw 0 (.map []) := ⟨#[], 0, hm, ⟨by simp, MapKept.stamped_empty 0, by simp⟩, by simp, rfl⟩
    have hkey := Maps.keyOf_int_mk Tryz.underlying3 (wf_i (show i64R page from ⟨by omega, by omega⟩))
    have HOWN := Lib.hid hown
    have HML := Lib.hid (show 0 < maxLen by decide)
    have HP := Lib.hid h
    clear hown h hm R
    go_enter Tryz.func55, Tryz.ntmps55
    go_wp2_with (at_mapUpdate; refine wpList_mapUpdate_own _ rfl _ _ _ 110 rfl 3 4 mapK Tryz.underlying110 _ pw 0 _ rfl HOWN.out HML.out _ _ _ rfl rfl hkey _ [] (plainElem_bool Tryz.underlying4 true) ?_; intro w4 hown4 hgrow4)
    have HW := Lib.hid (watchAt_owns (f := watchF page) hown4 (fun p h0 h1 => by
      by_cases e : p = page
      · subst e
        rw [Maps.atKey_put_same (by first | exact Maps.isMap_nil | trivial | (unfold Maps.IsMap; simp)) (key_lit _)]
        unfold watchF
        rw [decide_eq_true ⟨h0, h1, rfl⟩]
      · rw [Maps.atKey_put_other (lit_ne e)]
        unfold watchF
        rw [decide_eq_false (fun hh => e hh.2.2)]
        rfl))
    have HK := Lib.hid ((Keeps.refl (fun b => b = pw) w).grown hgrow4 (fun k hk _ => by injection hk with hk; exact hk.symm))
    clear hown4 hgrow4
    go_wp2_with fail
    go_ret
    exact ⟨⟨_, rfl⟩, HW.out, HK.out⟩
  · have HW := Lib.hid (show WatchAt w pw (watchF page) from by
      have e : watchF page = fun _ => false := by
        funext q
        unfold watchF
        exact decide_eq_false (fun hh => h ⟨hh.1, hh.2.1⟩)
      rw [e]
      exact watchAt_none hm rfl)
    clear R hm
    by_cases h1 : page < 0
    · have t1 : decide (page < 0) = true := decide_eq_true h1
      clear h
      go_enter Tryz.func55, Tryz.ntmps55
      go_wp2_with fail
      go_ret
      exact ⟨⟨_, rfl⟩, HW.out, Keeps.refl _ _⟩
    · have t1 : decide (page < 0) = false := decide_eq_false h1
      have t2 : decide (64 ≤ page) = true := decide_eq_true (by omega)
      clear h
      go_enter Tryz.func55, Tryz.ntmps55
      go_wp2_with fail
      go_ret
      exact ⟨⟨_, rfl⟩, HW.out, Keeps.refl _ _⟩
end Go.Proofs.YtgmbladcoikffaaGreatDoor

/- StEqD -/
/- Two states, or two rows of registers, compared where they are the same. -/
namespace Go.Proofs.YtgmbladcoikffaaGreatDoor
open Go.RowKit Go.Deep
set_option linter.unusedVariables false

theorem mapM_some {α β : Type} (f : α → Option β) (l : List α) (h : ∀ x ∈ l, ∃ y, f x = some y) : ∃ L, l.mapM f = some L := by
  induction l with
  | nil => exact ⟨[], rfl⟩
  | cons a l ih =>
    obtain ⟨y, hy⟩ := h a (List.mem_cons_self ..)
    obtain ⟨L, hL⟩ := ih fun x hx => h x (List.mem_cons_of_mem _ hx)
    exact ⟨y :: L, by rw [List.mapM_cons, hy, hL]; rfl⟩
theorem lits_int (d : Nat) {t : TypeId} {k : IntKind} (ht : Tryz.prog.underlying t = some (.int k)) (v : Int) (hw : (Lit.int k v).wf = true) : ∃ L, Tryz.prog.keyLits (d + 1) t [.int k v] = some L := by
  refine ⟨[.int k v], ?_⟩
  unfold Program.keyLits
  rw [ht]
  simp only
  rw [if_pos (by simpa using hw)]
theorem wf_W {v : Int} (h : Cp.W v) : (Lit.int .u32 v).wf = true := by
  have e1 : IntKind.u32.min = 0 := by decide
  have e2 : IntKind.u32.max = 4294967295 := by decide
  show (decide (IntKind.u32.min ≤ v) && decide (v ≤ IntKind.u32.max)) = true
  rw [e1, e2]
  unfold Cp.W at h
  simp
  omega
theorem lits_u32 (d : Nat) (v : Int) (h : Cp.W v) : ∃ L, Tryz.prog.keyLits (d + 1) 22 [.int .u32 v] = some L := lits_int d Tryz.underlying22 v (wf_W h)
theorem lits_bool (d : Nat) (b : Bool) : ∃ L, Tryz.prog.keyLits (d + 1) 4 [.bool b] = some L := by
  refine ⟨[.bool b], ?_⟩
  unfold Program.keyLits
  rw [Tryz.underlying4]
theorem cellsOf_u32 : Tryz.prog.cellsOf 22 = 1 := by kernel_rfl
theorem cellsOf_int : Tryz.prog.cellsOf 3 = 1 := by kernel_rfl
theorem cellsOf_bool : Tryz.prog.cellsOf 4 = 1 := by kernel_rfl
theorem cellsOf_regs : Tryz.prog.cellsOf 24 = 32 := by kernel_rfl
theorem cellsOf_st : Tryz.prog.cellsOf 26 = 43 := by kernel_rfl
theorem lits_regs (d : Nat) (R : Nat → Int) (h : ∀ k, k < 32 → Cp.W (R k)) : ∃ L, Tryz.prog.keyLits (d + 2) 24 (regs R) = some L := by
  have hm := mapM_some (fun i => Tryz.prog.keyLits (d + 1) 22 (((regs R).drop (i * Tryz.prog.cellsOf 22)).take (Tryz.prog.cellsOf 22))) (List.range 32) (fun i hi => by
    have hi : i < 32 := List.mem_range.1 hi
    have : ((regs R).drop (i * Tryz.prog.cellsOf 22)).take (Tryz.prog.cellsOf 22) = [.int .u32 (R i)] := by
      rw [cellsOf_u32, Nat.mul_one]
      apply List.ext_getElem?
      intro j
      by_cases hj : j = 0
      · subst hj
        simp [regs, hi]
      · rw [List.getElem?_eq_none (by simp; omega), List.getElem?_eq_none (by simp; omega)]
    simp only [this]
    exact lits_u32 d _ (h i hi))
  obtain ⟨L, hL⟩ := hm
  refine ⟨L.flatten, ?_⟩
  unfold Program.keyLits
  rw [Tryz.underlying24]
  simp only
  rw [if_pos (by rw [regs_len, cellsOf_regs]), hL]
  rfl
theorem fields_st : ∃ fs, Tryz.prog.underlying 26 = some (.struct fs) ∧ fs.all (·.name != "_") = true ∧ fs.toList.map (fun f => (f.type, f.offset)) = [(24, 0), (22, 32), (22, 33), (22, 34), (22, 35), (4, 36), (22, 37), (22, 38), (22, 39), (22, 40), (22, 41), (3, 42)] :=
  ⟨_, Tryz.underlying26, by kernel_rfl, by kernel_rfl⟩
theorem take_rest (s : Cp.St) (i : Nat) (v : Value) (h : (restC s)[i]? = some v) : ((stL s).drop (32 + i)).take 1 = [v] := by
  have hlt := (List.getElem?_eq_some_iff.1 h).1
  have : (stL s)[32 + i]? = some v := by
    unfold stL
    rw [List.getElem?_append_right (by rw [regs_len]; omega), regs_len, show 32 + i - 32 = i by omega]
    exact h
  apply List.ext_getElem?
  intro j
  by_cases hj : j = 0
  · subst hj
    rw [List.getElem?_take_of_lt (by omega), List.getElem?_drop]
    exact this
  · rw [List.getElem?_eq_none (by simp; omega), List.getElem?_eq_none (by simp; omega)]
theorem lits_st (d : Nat) (s : Cp.St) (h : Cp.Rng s) : ∃ L, Tryz.prog.keyLits (d + 3) 26 (stL s) = some L := by
  obtain ⟨fs, hu, hn, hf⟩ := fields_st
  have hm := mapM_some (fun f => Tryz.prog.keyLits (d + 2) f.type (((stL s).drop f.offset).take (Tryz.prog.cellsOf f.type))) fs.toList (fun f hf' => by
    have hmem : (f.type, f.offset) ∈ fs.toList.map (fun f => (f.type, f.offset)) := List.mem_map_of_mem hf'
    rw [hf] at hmem
    have hint : (Lit.int .i64 s.count).wf = true := WalkArith.wf_i64 (by have := h.count; omega)
    simp only [List.mem_cons, Prod.mk.injEq, List.not_mem_nil, or_false] at hmem
    rcases hmem with ⟨e1, e2⟩ | ⟨e1, e2⟩ | ⟨e1, e2⟩ | ⟨e1, e2⟩ | ⟨e1, e2⟩ | ⟨e1, e2⟩ | ⟨e1, e2⟩ | ⟨e1, e2⟩ | ⟨e1, e2⟩ | ⟨e1, e2⟩ | ⟨e1, e2⟩ | ⟨e1, e2⟩
    all_goals rw [e1, e2]
    · rw [cellsOf_regs]
      have : ((stL s).drop 0).take 32 = regs s.R := by
        rw [List.drop_zero]
        unfold stL
        rw [List.take_append_of_le_length (by rw [regs_len]; omega), ← regs_len s.R, List.take_length]
      rw [this]
      exact lits_regs d s.R h.R
    · rw [cellsOf_u32, take_rest s 0 _ rfl]; exact lits_u32 _ _ h.hi
    · rw [cellsOf_u32, take_rest s 1 _ rfl]; exact lits_u32 _ _ h.lo
    · rw [cellsOf_u32, take_rest s 2 _ rfl]; exact lits_u32 _ _ h.pc
    · rw [cellsOf_u32, take_rest s 3 _ rfl]; exact lits_u32 _ _ h.next
    · rw [cellsOf_bool, take_rest s 4 _ rfl]; exact lits_bool _ _
    · rw [cellsOf_u32, take_rest s 5 _ rfl]; exact lits_u32 _ _ h.status
    · rw [cellsOf_u32, take_rest s 6 _ rfl]; exact lits_u32 _ _ h.cause
    · rw [cellsOf_u32, take_rest s 7 _ rfl]; exact lits_u32 _ _ h.epc
    · rw [cellsOf_u32, take_rest s 8 _ rfl]; exact lits_u32 _ _ h.bad
    · rw [cellsOf_u32, take_rest s 9 _ rfl]; exact lits_u32 _ _ h.compare
    · rw [cellsOf_int, take_rest s 10 _ rfl]; exact lits_int _ Tryz.underlying3 _ hint)
  obtain ⟨L, hL⟩ := hm
  refine ⟨L.flatten, ?_⟩
  unfold Program.keyLits
  rw [hu]
  simp only
  rw [if_pos ⟨by rw [cellsOf_st]; simp [stL, regs, restC], hn⟩, hL]
  rfl
theorem equal_same {t : TypeId} {m : Nat} (hm : m ≤ 10000) (hk : Tryz.prog.keyTypeAt m t = true) (w : World) (cs : List Value) (hf : (Value.agg cs.toArray).formed Tryz.prog t = true) (hL : ∃ L, Tryz.prog.keyLits 5 t cs = some L) :
    (Op.equal t (.agg cs.toArray) (.agg cs.toArray)).run Tryz.prog w = .ok true w := by
  obtain ⟨L, hL⟩ := hL
  obtain ⟨r, hr, hi⟩ := run_equalIn_deep (P := Tryz.prog) (10000 - m) m t hk w 5 5 _ _ L L hf hf hL hL
  rw [show 10000 - m + m = 10000 by omega] at hr
  rw [hi.2 rfl] at hr
  exact hr
theorem equal_regs (w : World) (R : Nat → Int) (h : ∀ k, k < 32 → Cp.W (R k)) : (Op.equal 24 (.agg (regs R).toArray) (.agg (regs R).toArray)).run Tryz.prog w = .ok true w :=
  equal_same (m := 3) (by omega) (by kernel_rfl) w _ (by
    unfold Value.formed
    rw [Tryz.underlying24, cellsOf_regs]
    simp [regs]) (lits_regs 3 R h)
theorem equal_st (w : World) (s : Cp.St) (h : Cp.Rng s) : (Op.equal 26 (.agg (stL s).toArray) (.agg (stL s).toArray)).run Tryz.prog w = .ok true w :=
  equal_same (m := 4) (by omega) (by kernel_rfl) w _ (by
    unfold Value.formed
    rw [Tryz.underlying26, cellsOf_st]
    simp [stL, regs, restC]) (lits_st 2 s h)
/-- '!=' and '==' of two values of cells that are the same -/
theorem run_bin_agg {P : Program} (o : BinOp) (ho : o = .neq ∨ o = .eql) (t : TypeId) (x y : Operand) (cs : Array Value) (w : World) (hg : P.eqGuardType P.depth t = false) (he : (Op.equal t (.agg cs) (.agg cs)).run P w = .ok true w) :
    (do eqGuard o t x y (.agg cs) (.agg cs); binOp o t (.agg cs) (.agg cs) : Sem Value).run P w = .ok (.bool (if o = .eql then true else false)) w := by
  rcases ho with rfl | rfl
  · have h1 : (eqGuard .neq t x y (.agg cs) (.agg cs)).run P w = .ok () w := by
      simp [eqGuard, Sem.run_bind, run_program, hg]
    simp [Sem.run_bind, h1, binOp, he]
  · have h1 : (eqGuard .eql t x y (.agg cs) (.agg cs)).run P w = .ok () w := by
      simp [eqGuard, Sem.run_bind, run_program, hg]
    simp [Sem.run_bind, h1, binOp, he]
theorem wp_bin_agg {P : Program} {op : Oper} {a : Act} {w : World} {K : Act → World → Prop} {Q : Exit → Act → World → Prop} (o : BinOp) (hoo : o = .neq ∨ o = .eql) (t t' : TypeId) (x y : Operand) (ho : op.op = .binOp o t x y t') (cs : Array Value)
    (hx : a.eval x = .agg cs) (hy : a.eval y = .agg cs) (hg : P.eqGuardType P.depth t = false) (he : (Op.equal t (.agg cs) (.agg cs)).run P w = .ok true w) (h : K (a.put op.dst (.bool (if o = .eql then true else false))) w) : op.wp P a w K Q := by
  have hr := run_bin_agg o hoo t x y cs w hg he
  unfold Oper.wp execOp
  simp only [ho, hx, hy]
  rw [Sem.run_bind, hr]
  exact h
theorem eqg_regs : Tryz.prog.eqGuardType Tryz.prog.depth 24 = false := by kernel_rfl
theorem eqg_st : Tryz.prog.eqGuardType Tryz.prog.depth 26 = false := by kernel_rfl
end Go.Proofs.YtgmbladcoikffaaGreatDoor

/- StPutD -/
/- A state of the processor copied: loaded whole, stored whole into a new block. -/
namespace Go.Proofs.YtgmbladcoikffaaGreatDoor
open Go.RowKit Go.Deep
set_option linter.unusedVariables false

theorem stL_len (s : Cp.St) : (stL s).length = 43 := by simp [stL, regs, restC]
theorem size_st : (Tryz.prog.info? 26).map (·.size) = some 43 := by kernel_rfl
theorem StAt.range {w : World} {sb : Nat} {s : Cp.St} (h : StAt w sb s) : w.rangeAt sb 0 (stL s) := fun j v hv => by
  unfold World.cell?
  rw [h]
  simpa using hv
theorem stL_one (s : Cp.St) : (stL s).toArray.all (·.oneCell') = true := by
  refine all_oneCell_toArray fun v hv => ?_
  unfold stL at hv
  rcases List.mem_append.1 hv with h | h
  · unfold regs at h
    obtain ⟨k, _, rfl⟩ := List.mem_map.1 h
    rfl
  · unfold restC at h
    simp only [List.mem_cons, List.not_mem_nil, or_false] at h
    rcases h with rfl | rfl | rfl | rfl | rfl | rfl | rfl | rfl | rfl | rfl | rfl <;> rfl
/-- THE LOAD of a whole state -/
theorem wpList_load_st {ops : Array Oper} {rest : List Oper} {op : Oper} {a : Act} {w : World} {Q : Exit → Act → World → Prop} (hgd : op.guard = none) (x : Operand) (ho : op.op = .load 26 x) (sb : Nat) (s : Cp.St) (h : StAt w sb s)
    (hx : a.eval x = .pointer (some ⟨sb, 0, none⟩)) (hk : wpList Tryz.prog ops Q rest (a.put op.dst (.agg (stL s).toArray)) w) : wpList Tryz.prog ops Q (op :: rest) a w :=
  wpList_load_mid hgd _ x ho sb 0 hx (stL s) _ h.range Tryz.underlying26 rfl (by rw [stL_len]; exact size_st) hk
theorem size_regs : (Tryz.prog.info? 24).map (·.size) = some 32 := by kernel_rfl
theorem StAt.rangeR {w : World} {sb : Nat} {s : Cp.St} (h : StAt w sb s) : w.rangeAt sb 0 (regs s.R) := fun j v hv => by
  have hj : j < 32 := by have := (List.getElem?_eq_some_iff.1 hv).1; rwa [regs_len] at this
  refine h.range j v ?_
  unfold stL
  rw [List.getElem?_append_left (by rw [regs_len]; exact hj)]
  exact hv
/-- the load of the registers -/
theorem wpList_load_regs {ops : Array Oper} {rest : List Oper} {op : Oper} {a : Act} {w : World} {Q : Exit → Act → World → Prop} (hgd : op.guard = none) (x : Operand) (ho : op.op = .load 24 x) (sb : Nat) (s : Cp.St) (R : Nat → Int) (hR : s.R = R) (h : StAt w sb s)
    (hx : a.eval x = .pointer (some ⟨sb, 0, none⟩)) (hk : wpList Tryz.prog ops Q rest (a.put op.dst (.agg (regs R).toArray)) w) : wpList Tryz.prog ops Q (op :: rest) a w := by
  subst hR
  exact wpList_load_mid hgd _ x ho sb 0 hx (regs s.R) _ h.rangeR Tryz.underlying24 rfl (by rw [regs_len]; exact size_regs) hk
theorem wpList_bin_regs {ops : Array Oper} {rest : List Oper} {op : Oper} {a : Act} {w : World} {Q : Exit → Act → World → Prop} (hgd : op.guard = none) (o : BinOp) (hoo : o = .neq ∨ o = .eql) (t' : TypeId) (x y : Operand) (ho : op.op = .binOp o 24 x y t') (R : Nat → Int) (hR : ∀ k, k < 32 → Cp.W (R k))
    (hx : a.eval x = .agg (regs R).toArray) (hy : a.eval y = .agg (regs R).toArray) (hk : wpList Tryz.prog ops Q rest (a.put op.dst (.bool (if o = .eql then true else false))) w) : wpList Tryz.prog ops Q (op :: rest) a w :=
  wpList_plain hgd fun _ hK => wp_bin_agg o hoo _ t' x y ho _ hx hy eqg_regs (equal_regs w R hR) (hK _ _ hk)
theorem wpList_bin_st {ops : Array Oper} {rest : List Oper} {op : Oper} {a : Act} {w : World} {Q : Exit → Act → World → Prop} (hgd : op.guard = none) (o : BinOp) (hoo : o = .neq ∨ o = .eql) (t' : TypeId) (x y : Operand) (ho : op.op = .binOp o 26 x y t') (s : Cp.St) (hs : Cp.Rng s)
    (hx : a.eval x = .agg (stL s).toArray) (hy : a.eval y = .agg (stL s).toArray) (hk : wpList Tryz.prog ops Q rest (a.put op.dst (.bool (if o = .eql then true else false))) w) : wpList Tryz.prog ops Q (op :: rest) a w :=
  wpList_plain hgd fun _ hK => wp_bin_agg o hoo _ t' x y ho _ hx hy eqg_st (equal_st w s hs) (hK _ _ hk)
theorem wpList_neq_regs {ops : Array Oper} {rest : List Oper} {op : Oper} {a : Act} {w : World} {Q : Exit → Act → World → Prop} (hgd : op.guard = none) (t' : TypeId) (x y : Operand) (ho : op.op = .binOp .neq 24 x y t') (R : Nat → Int) (hR : ∀ k, k < 32 → Cp.W (R k))
    (hx : a.eval x = .agg (regs R).toArray) (hy : a.eval y = .agg (regs R).toArray) (hk : wpList Tryz.prog ops Q rest (a.put op.dst (.bool false)) w) : wpList Tryz.prog ops Q (op :: rest) a w :=
  wpList_bin_regs hgd .neq (.inl rfl) t' x y ho R hR hx hy hk
theorem setCells_block {b : Nat} {T : TypeId} {f : Nat × Nat} : ∀ (vs : List Value) (o : Nat) (w : World) (cs : Array Value), w.heap[b]? = some (.cells cs T f) →
    ∃ cs', (w.setCells b o vs).heap[b]? = some (.cells cs' T f) ∧ cs'.size = cs.size ∧ ∀ j, cs'[j]? = if o ≤ j ∧ j < o + vs.length ∧ j < cs.size then vs[j - o]? else cs[j]?
  | [], o, w, cs, h => ⟨cs, h, rfl, fun j => by rw [if_neg (by simp; omega)]⟩
  | v :: r, o, w, cs, h => by
    obtain ⟨cs', h1, h2, h3⟩ := setCells_block r (o + 1) (w.setCell ⟨b, o, none⟩ v) _ (set_block h o v)
    refine ⟨cs', h1, by rw [h2]; simp, fun j => ?_⟩
    rw [h3 j]
    simp only [Array.size_setIfInBounds, List.length_cons]
    by_cases h4 : o + 1 ≤ j ∧ j < o + 1 + r.length ∧ j < cs.size
    · rw [if_pos h4, if_pos (by omega), show j - o = (j - (o + 1)) + 1 by omega, List.getElem?_cons_succ]
    · rw [if_neg h4]
      by_cases h5 : o = j
      · subst h5
        by_cases h6 : o < cs.size
        · rw [if_pos (by omega)]
          simp [h6]
        · rw [if_neg (by omega), Array.getElem?_eq_none (by simp; omega), Array.getElem?_eq_none (by omega)]
      · rw [if_neg (by omega), Array.getElem?_setIfInBounds_ne h5]
theorem keeps_setCells (b : Nat) : ∀ (vs : List Value) (o : Nat) (w : World), Keeps (· = b) w (w.setCells b o vs)
  | [], _, w => Keeps.refl _ w
  | v :: r, o, w => (Keeps.one w b o v).trans (keeps_setCells b r (o + 1) _) (fun _ _ h => h)
/-- a state stored whole -/
theorem StAt.putAll {w : World} {b : Nat} {cs : Array Value} (h : w.heap[b]? = some (.cells cs 26 (0, 0))) (hc : cs.size = 43) (s : Cp.St) : StAt (w.setCells b 0 (stL s)) b s := by
  obtain ⟨cs', h1, h2, h3⟩ := setCells_block (stL s) 0 w cs h
  have he : cs' = (stL s).toArray := Array.ext_getElem? fun j => by
    rw [h3 j, stL_len, hc]
    by_cases hj : j < 43
    · rw [if_pos (by omega)]
      simp
    · rw [if_neg (by omega), Array.getElem?_eq_none (by omega), List.getElem?_toArray, List.getElem?_eq_none (by rw [stL_len]; omega)]
  subst he
  exact h1
theorem wpList_store_st {ops : Array Oper} {rest : List Oper} {op : Oper} {a : Act} {w : World} {Q : Exit → Act → World → Prop} (hgd : op.guard = none) (x y : Operand) (ho : op.op = .store 26 x y) (b : Nat) (cs : Array Value) (s : Cp.St) (h : w.heap[b]? = some (.cells cs 26 (0, 0))) (hc : cs.size = 43)
    (hx : a.eval x = .pointer (some ⟨b, 0, none⟩)) (hy : a.eval y = .agg (stL s).toArray) (hk : ∀ w', StAt w' b s → Keeps (· = b) w w' → wpList Tryz.prog ops Q rest (a.put op.dst undef) w') : wpList Tryz.prog ops Q (op :: rest) a w :=
  wpList_store_mid hgd _ x y ho b 0 (stL s).toArray hx hy (fun j hj => by
    have hj2 : j < 43 := by simpa [stL_len] using hj
    refine ⟨?_, frozen_of_block h _⟩
    unfold World.cell?
    rw [h]
    simp [hc, hj2]) (by simpa [stL_len] using size_st) (stL_one s) (hk _ (StAt.putAll h hc s) (keeps_setCells b _ 0 w))
end Go.Proofs.YtgmbladcoikffaaGreatDoor

/- Place2 -/
/- Places as they come in; the walks of longPlace, memory, placed. -/
namespace Go.Proofs.YtgmbladcoikffaaGreatDoor
open Go.RowKit Go.Deep
set_option linter.unusedVariables false
set_option linter.unusedSimpArgs false

/-- a place's cells -/
def placeL (s : Cp.St) (A : Option Addr) (n cap : Nat) (page : Int) : List Value := stL s ++ [.slice A n cap, .int .i64 page]
/-- a place in a block of its own -/
structure PlaceAt (w : World) (x : Nat) (s : Cp.St) (A : Option Addr) (n cap : Nat) (page : Int) : Prop where
  blk : w.heap[x]? = some (.cells (placeL s A n cap page).toArray 29 (0, 0))
theorem PlaceAt.new (w : World) (s : Cp.St) (A : Option Addr) (n cap : Nat) (page : Int) : PlaceAt (w.alloc (.cells (placeL s A n cap page).toArray 29)) w.heap.size s A n cap page := ⟨blk_alloc_new _ _⟩
theorem PlaceAt.lt {w : World} {x : Nat} {s : Cp.St} {A : Option Addr} {n cap : Nat} {page : Int} (h : PlaceAt w x s A n cap page) : x < w.heap.size := (Array.getElem?_eq_some_iff.1 h.blk).1
theorem PlaceAt.keep {S : Nat → Prop} {w w' : World} {x : Nat} {s : Cp.St} {A : Option Addr} {n cap : Nat} {page : Int} (h : PlaceAt w x s A n cap page) (k : Keeps S w w') (hs : ¬ S x) : PlaceAt w' x s A n cap page := ⟨(k.block x h.lt hs).trans h.blk⟩
theorem PlaceAt.range {w : World} {x : Nat} {s : Cp.St} {A : Option Addr} {n cap : Nat} {page : Int} (h : PlaceAt w x s A n cap page) : w.rangeAt x 0 (placeL s A n cap page) := fun j v hv => by
  unfold World.cell?
  rw [h.blk]
  simpa using hv
theorem placeL_st (s : Cp.St) (A : Option Addr) (n cap : Nat) (page : Int) (j : Nat) (hj : j < 43) : (placeL s A n cap page)[j]? = (stL s)[j]? := by
  unfold placeL
  rw [List.getElem?_append_left (by rw [stL_len]; exact hj)]
theorem PlaceAt.rangeS {w : World} {x : Nat} {s : Cp.St} {A : Option Addr} {n cap : Nat} {page : Int} (h : PlaceAt w x s A n cap page) : w.rangeAt x 0 (stL s) := fun j v hv => by
  have hj : j < 43 := by have := (List.getElem?_eq_some_iff.1 hv).1; rwa [stL_len] at this
  exact h.range j v (by rw [placeL_st s A n cap page j hj]; exact hv)
theorem PlaceAt.count {w : World} {x : Nat} {s : Cp.St} {A : Option Addr} {n cap : Nat} {page : Int} (h : PlaceAt w x s A n cap page) : w.cell? ⟨x, 42, none⟩ = some (.int .i64 s.count) := by
  have := h.range 42 (.int .i64 s.count) (by
    rw [placeL_st s A n cap page 42 (by omega)]
    unfold stL
    rw [List.getElem?_append_right (by rw [regs_len]; omega), regs_len]
    rfl)
  simpa using this
theorem PlaceAt.tail {w : World} {x : Nat} {s : Cp.St} {A : Option Addr} {n cap : Nat} {page : Int} (h : PlaceAt w x s A n cap page) : w.cell? ⟨x, 43, none⟩ = some (.slice A n cap) ∧ w.cell? ⟨x, 44, none⟩ = some (.int .i64 page) := by
  constructor
  · have := h.range 43 (.slice A n cap) (by
      unfold placeL
      rw [List.getElem?_append_right (by rw [stL_len]; omega), stL_len]
      rfl)
    simpa using this
  · have := h.range 44 (.int .i64 page) (by
      unfold placeL
      rw [List.getElem?_append_right (by rw [stL_len]; omega), stL_len]
      rfl)
    simpa using this
/-- what longPlace answers -/
def LongIs (w : World) (n : Nat) (c : Int) (e : Ending) (w' : World) : Prop := ∃ b, e = .returned (.bool b) ∧ (b = false → n ≤ 200 ∧ 0 ≤ c ∧ c ≤ 1099511627776) ∧ Keeps (fun _ => False) w w'
set_option maxHeartbeats 1000000 in
set_option maxRecDepth 100000 in
theorem longPlace_any (s : Cp.St) (A : Option Addr) (n cap : Nat) (page : Int) (w : World) :
    Calls Tryz.prog 9 #[.agg (placeL s A n cap page).toArray] w (LongIs w n s.count) := by
  have HN := Lib.hid (PlaceAt.new w s A n cap page)
  have HK := Lib.hid ((Keeps.refl (fun _ => False) w).alloc (.cells (placeL s A n cap page).toArray 29))
  go_enter Tryz.func9, Tryz.ntmps9
  go_upto_region 1 with fail
  obtain ⟨t43, _⟩ := HN.out.tail
  have t42 := HN.out.count
  have HK1 := Lib.hid HK.out
  clear HN HK
  generalize w.alloc _ = w1 at *
  generalize w.heap.size = x at *
  by_cases h1 : 200 < n
  · have t1 : decide ((200 : Int) < (n : Int)) = true := decide_eq_true (by omega)
    go_wp2_with fail
    go_ret
    exact ⟨true, rfl, (fun h => by cases h), HK1.out⟩
  · have t1 : decide ((200 : Int) < (n : Int)) = false := decide_eq_false (by omega)
    by_cases h2 : s.count < 0
    · have t2 : decide (s.count < 0) = true := decide_eq_true h2
      go_wp2_with fail
      go_ret
      exact ⟨true, rfl, (fun h => by cases h), HK1.out⟩
    · have t2 : decide (s.count < 0) = false := decide_eq_false h2
      by_cases h3 : 1099511627776 < s.count
      · have t3 : decide (1099511627776 < s.count) = true := decide_eq_true h3
        go_wp2_with fail
        go_ret
        exact ⟨true, rfl, (fun h => by cases h), HK1.out⟩
      · have t3 : decide (1099511627776 < s.count) = false := decide_eq_false h3
        have HC := Lib.hid (show n ≤ 200 ∧ 0 ≤ s.count ∧ s.count ≤ 1099511627776 by omega)
        go_wp2_with fail
        go_ret
        exact ⟨false, rfl, (fun _ => HC.out), HK1.out⟩
/-- what memory answers -/
def MemIs (w : World) (n : Nat) (ws : Nat → Int) (page : Int) (e : Ending) (w' : World) : Prop :=
  ∃ r pb pw ph, e = .returned (.pointer (some ⟨r, 0, none⟩)) ∧ RamAt w' r pb pw ph 16384 (ramOf (min n 4096) ws) ∧ WatchAt w' pw (watchF page) ∧ w'.heap[ph]? = some (.map #[] 0) ∧ (w.heap.size ≤ r ∧ w.heap.size ≤ pb ∧ w.heap.size ≤ pw ∧ w.heap.size ≤ ph) ∧ Keeps (fun _ => False) w w'
set_option maxHeartbeats 1000000 in
set_option maxRecDepth 100000 in
theorem memory_any (s : Cp.St) (A : Option Addr) (n cap : Nat) (page : Int) (ws : Nat → Int) (w : World) (ea : Nat → Addr) (E : ErrsC w ea) (hR : Reads w A n cap (fun i => .int .u32 (ws i))) (hc : cap ≤ 9223372036854775807) (hr : ∀ i, i < n → 0 ≤ ws i ∧ ws i < 4294967296) :
    Calls Tryz.prog 18 #[.agg (placeL s A n cap page).toArray] w (MemIs w n ws page) := by
  have HE := Lib.hid E
  have HRD := Lib.hid hR
  have HRR := Lib.hid hr
  have HN := Lib.hid (PlaceAt.new w s A n cap page)
  have HK := Lib.hid ((Keeps.refl (fun _ => False) w).alloc (.cells (placeL s A n cap page).toArray 29))
  clear E hR hr
  go_enter Tryz.func18, Tryz.ntmps18
  go_upto_region 1 with fail
  have HP1 := Lib.hid HN.out
  obtain ⟨t43, t44⟩ := HN.out.tail
  have HK1 := Lib.hid HK.out
  clear HN HK
  generalize w.alloc _ = w1 at *
  obtain ⟨x, hx⟩ : ∃ x, w.heap.size = x := ⟨_, rfl⟩
  rw [hx] at t43 t44 HP1 ⊢
  clear hx
  go_wp2_with fail
  refine (new_any n cap A w1 ws (HRD.out.keep HK1.out (fun _ _ _ h => h)) hc HRR.out).mono ?_
  rintro e w2 ⟨rfl, hN2⟩
  have HN2 := Lib.hid hN2
  have HR2 := Lib.hid hN2.ram
  have HK2 := Lib.hid (HK1.out.trans hN2.keeps (fun _ _ h => h))
  have HW2 := Lib.hid hN2.watch
  have HT2 := Lib.hid hN2.hits
  have HLO := Lib.hid HK1.out.size
  have hP2 := HP1.out.keep hN2.keeps (fun h => h)
  clear hN2 t43 t44
  obtain ⟨t43, t44⟩ := hP2.tail
  have hne : (Value.pointer (some ⟨w1.heap.size + 3, 0, none⟩)) ≠ .pointer none := by intro h; cases h
  have HWA := Lib.hid (watch_any (w1.heap.size + 3) w1.heap.size (w1.heap.size + 1) (w1.heap.size + 2) 16384 _ page w2 ea (HE.out.quiet HK2.out) HR2.out HW2.out)
  clear hP2 hne
  go_wp2_with fail
  refine HWA.out.mono ?_
  rintro e w3 ⟨⟨ev, rfl⟩, hW3, hk3⟩
  have HW3 := Lib.hid hW3
  have HR3 := Lib.hid (HR2.out.keep hk3 (fun e => HR2.out.apart.2.1 e) (fun e => HR2.out.apart.2.2.2.1 e))
  have HT3 := Lib.hid (hk3.map HT2.out (fun e => HR2.out.apart.2.2.2.2.2 (Eq.symm e)))
  have HK3 := Lib.hid (HK2.out.trans hk3 (fun b hb e => by have := HLO.out; omega))
  clear hW3 hk3 t43 t44
  go_wp2_with fail
  go_ret
  exact ⟨_, _, _, _, rfl, HR3.out, HW3.out, HT3.out, by have := HLO.out; omega, HK3.out⟩
def st0L : List Value := stL ⟨fun _ => 0, 0, 0, 0, 0, false, 0, 0, 0, 0, 0, 0⟩
theorem st0_lit : st0L.toArray = #[.int .u32 0, .int .u32 0, .int .u32 0, .int .u32 0, .int .u32 0, .int .u32 0, .int .u32 0, .int .u32 0, .int .u32 0, .int .u32 0, .int .u32 0, .int .u32 0, .int .u32 0, .int .u32 0, .int .u32 0, .int .u32 0, .int .u32 0, .int .u32 0, .int .u32 0, .int .u32 0, .int .u32 0, .int .u32 0, .int .u32 0, .int .u32 0, .int .u32 0, .int .u32 0, .int .u32 0, .int .u32 0, .int .u32 0, .int .u32 0, .int .u32 0, .int .u32 0, .int .u32 0, .int .u32 0, .int .u32 0, .int .u32 0, .bool false, .int .u32 0, .int .u32 0, .int .u32 0, .int .u32 0, .int .u32 0, .int .i64 0] := by kernel_rfl
/-- a place's state, as a code at pc begins -/
def Ir.placed (s : Cp.St) (pc : Int) : Cp.St := { s with R := fun k => if k = 0 then 0 else s.R k, pc := pc, next := (pc + 4) % 4294967296, slot := false }
set_option maxHeartbeats 2000000 in
set_option maxRecDepth 100000 in
theorem placed_any (s : Cp.St) (A : Option Addr) (n cap : Nat) (page pc : Int) (w : World) (hpc : 0 ≤ pc ∧ pc < 4294967296) :
    Calls Tryz.prog 12 #[.agg (placeL s A n cap page).toArray, .int .u32 pc] w fun e w' => e = .returned (.agg (stL (Ir.placed s pc)).toArray) ∧ Keeps (fun _ => False) w w' := by
  have HN := Lib.hid (PlaceAt.new w s A n cap page)
  have HK := Lib.hid ((Keeps.refl (fun _ => False) w).alloc (.cells (placeL s A n cap page).toArray 29))
  obtain ⟨sp, hsp⟩ : ∃ sp, Ir.placed s pc = sp := ⟨_, rfl⟩
  rw [hsp]
  have HSP := Lib.hid hsp
  clear hsp
  go_enter Tryz.func12, Tryz.ntmps12
  go_upto_region 1 with fail
  obtain ⟨rb, hrb⟩ : ∃ b, w.heap.size + 1 = b := ⟨_, rfl⟩
  have hb0 := nblk_alloc w (.cells (placeL s A n cap page).toArray 29)
  have hPA := HN.out
  have hKA := HK.out
  clear HN HK
  generalize w.alloc _ = w1 at *
  have HRB := Lib.hid (show w.heap.size + 1 = rb ∧ w1.heap.size = rb from ⟨hrb, by omega⟩)
  have hR := blk_alloc_new w1 (.cells st0L.toArray 26)
  have hKB := (Keeps.refl (fun _ => False) w1).alloc (.cells st0L.toArray 26)
  rw [HRB.out.2] at hR
  rw [hrb]
  rw [st0_lit] at hR hKB
  obtain ⟨x, hx⟩ : ∃ x, w.heap.size = x := ⟨_, rfl⟩
  rw [hx] at hPA ⊢
  have HX := Lib.hid (show x + 1 = rb from by omega)
  have HWX := Lib.hid hx
  clear hb0 hrb hx
  generalize w1.alloc _ = w2 at *
  rw [← st0_lit] at hR
  have HR2 := Lib.hid hR
  have HP2 := Lib.hid (hPA.keep hKB (fun h => h))
  have HK2 := Lib.hid (hKA.trans hKB (fun _ _ h => h))
  clear hR hPA hKA hKB
  have HSZ := Lib.hid (show (Tryz.prog.info? 26).map (·.size) = some (stL s).length by rw [stL_len]; exact size_st)
  go_wp2_with (first
    | (with_reducible refine wpList_load_mid rfl _ _ rfl x 0 rfl (stL s) _ HP2.out.rangeS Tryz.underlying26 rfl HSZ.out ?_)
    | (with_reducible refine wpList_store_st rfl _ _ rfl _ _ s (blk_alloc_new _ _) (by simp) rfl rfl ?_))
  intro w3 hS3 hk3
  have hk3' := ((Keeps.refl (fun _ => False) w2).alloc _).trans hk3 (fun j hj e => absurd (show j = w2.heap.size from e) (Nat.ne_of_lt hj))
  have HS3 := Lib.hid hS3
  have HK3 := Lib.hid (HK2.out.trans hk3' (fun _ _ h => h))
  have HNE := Lib.hid (show rb < w2.heap.size from (Array.getElem?_eq_some_iff.1 HR2.out).1)
  have HR3 := Lib.hid ((hk3'.block rb HNE.out (fun h => h)).trans HR2.out)
  have HWY := Lib.hid (show w.heap.size ≤ w2.heap.size from HK2.out.size)
  obtain ⟨y, hy⟩ : ∃ y, w2.heap.size = y := ⟨_, rfl⟩
  rw [hy] at HS3 HNE HWY
  have HY := Lib.hid hy
  clear hS3 hk3 hk3'
  rw [hy]
  clear hy
  have q0 := HS3.out.frozen 0
  have q1 := HS3.out.frozen 34
  have q2 := HS3.out.frozen 35
  have q3 := HS3.out.frozen 36
  have c0 := HS3.out.reg 0 (by omega)
  obtain ⟨_, _, c1, c2, c3, _⟩ := HS3.out.cells
  have hS4 : StAt ((((w3.setCell ⟨y, 0, none⟩ (.int .u32 0)).setCell ⟨y, 34, none⟩ (.int .u32 pc)).setCell ⟨y, 35, none⟩ (.int .u32 ((pc + 4) % 4294967296))).setCell ⟨y, 36, none⟩ (.bool false)) y (Ir.placed s pc) :=
    (((HS3.out.setReg 0 (by omega) 0).set (s' := { s with R := fun k => if k = 0 then 0 else s.R k, pc := pc }) 2 (.int .u32 pc) rfl rfl).set (s' := { s with R := fun k => if k = 0 then 0 else s.R k, pc := pc, next := (pc + 4) % 4294967296 }) 3 (.int .u32 ((pc + 4) % 4294967296)) rfl rfl).set (s' := Ir.placed s pc) 4 (.bool false) rfl rfl
  have hk4 : Keeps (· = y) w3 ((((w3.setCell ⟨y, 0, none⟩ (.int .u32 0)).setCell ⟨y, 34, none⟩ (.int .u32 pc)).setCell ⟨y, 35, none⟩ (.int .u32 ((pc + 4) % 4294967296))).setCell ⟨y, 36, none⟩ (.bool false)) :=
    (((Keeps.one w3 y 0 (.int .u32 0)).trans (Keeps.one _ y 34 (.int .u32 pc)) (fun _ _ h => h)).trans (Keeps.one _ y 35 (.int .u32 ((pc + 4) % 4294967296))) (fun _ _ h => h)).trans (Keeps.one _ y 36 (.bool false)) (fun _ _ h => h)
  rw [HSP.out] at hS4
  have HS4 := Lib.hid hS4
  have HK4 := Lib.hid (HK3.out.trans hk4 (fun b hb e => by have e : b = y := e; have := HWY.out; omega))
  have HR4 := Lib.hid ((hk4.block rb (Array.getElem?_eq_some_iff.1 HR3.out).1 (fun e => by have e : rb = y := e; have := HNE.out; omega)).trans HR3.out)
  clear hS4 hk4
  go_upto_region 6 with fail
  clear q0 q1 q2 q3 c0 c1 c2 c3
  generalize World.setCell (World.setCell (World.setCell (World.setCell w3 _ _) _ _) _ _) _ _ = w4 at *
  go_wp2_with (first
    | (with_reducible refine wpList_load_st rfl _ rfl y sp HS4.out rfl ?_)
    | (with_reducible refine wpList_store_st rfl _ _ rfl _ _ sp HR4.out (by simp [st0L, stL, regs, restC]) rfl rfl ?_))
  intro w5 hS5 hk5
  have HS5 := Lib.hid hS5
  have HK5 := Lib.hid (HK4.out.trans hk5 (fun b hb e => by have e : b = rb := e; have := HRB.out.1; omega))
  clear hS5 hk5
  go_wp2_with fail
  exact bodyPost_ret (results_cell_row rfl _ _ rb 26 (stL sp).toArray (0, 0) _ rfl HS5.out Tryz.underlying26 rfl (by rw [List.size_toArray, stL_len]; exact size_st)) rfl ⟨rfl, HK5.out⟩
end Go.Proofs.YtgmbladcoikffaaGreatDoor

/- Bettered -/
/- The walk of the law's bettered: a closed fact. -/
namespace Go.Proofs.YtgmbladcoikffaaGreatDoor
open Go.RowKit Go.Deep
set_option linter.unusedVariables false
set_option linter.unusedSimpArgs false

theorem OpsAt.lit (w : World) (l : List Ir.Op) (T : TypeId) (n : Nat) (hn : l.length = n) : OpsAt (w.alloc (.cells (opsL l).toArray T)) (some ⟨w.heap.size, 0, none⟩) n n l := by
  refine ⟨hn, Nat.le_refl _, .inr ⟨_, 0, rfl, by simp, fun i hi => OpLies.of_cells fun q hq v hv => ?_⟩⟩
  have e := opsL_get l i q (by omega) hq
  rw [hv] at e
  unfold World.cell?
  rw [blk_alloc_new]
  simp only [Nat.zero_add]
  simpa using e
theorem OptIs.good {w : World} {ea : Nat → Addr} {pc many : Int} {l : List Ir.Op} {level : Int} {cv ev : Value} (h : OptIs w ea pc many l level cv ev) (h0 : (Ir.optFault many l level).1 = 0) :
    ev = .nilIface ∧ ∃ A cap, cv = .agg #[.int .u32 pc, .int .i64 many, .slice A (Ir.opt l level).length cap] ∧ OpsAt w A (Ir.opt l level).length cap (Ir.opt l level) ∧ cap ≤ 9223372036854775807 := by
  obtain ⟨h1, h2⟩ := h
  refine ⟨?_, ?_⟩
  · rcases h1 with h1 | h1 | h1
    · exact h1.2
    · exact absurd h0 h1.1
    · exact absurd h0 h1.1
  · rcases h2 with h2 | h2
    · exact absurd h0 h2.1
    · exact h2.2
/-- the code of the closed fact -/
def betL : List Ir.Op := [⟨⟨#[115, 101, 116]⟩, 40, 0, 0, 7, 0⟩, ⟨⟨#[97, 100, 100]⟩, 6, 40, 40, 0, 0⟩, ⟨⟨#[111, 117, 116]⟩, 0, 0, 0, 40, 0⟩]
theorem bet_fault : Ir.optFault 1 betL 2 = (0, -1) := by decide +kernel
theorem bet_fault1 : Ir.fault 1 betL = (0, -1) := by decide +kernel
theorem bet_known : Ir.known betL = 1 := by decide +kernel
theorem bet_len : (Ir.opt betL 2).length = 2 := by decide +kernel
theorem bet_fault2 : Ir.fault 1 (Ir.opt betL 2) = (0, -1) := by decide +kernel
theorem bet_known2 : Ir.known (Ir.opt betL 2) = 0 := by decide +kernel
theorem bet_dead2 : Ir.deads (Ir.opt betL 2) = 0 := by decide +kernel
theorem bet_ok : ∀ o ∈ betL, OpOk o := by
  intro o ho
  simp only [betL, List.mem_cons, List.not_mem_nil, or_false] at ho
  rcases ho with rfl | rfl | rfl <;> exact ⟨by unfold i64R; decide, by unfold i64R; decide, by unfold i64R; decide, by unfold u32R; decide, by unfold i64R; decide⟩
set_option maxHeartbeats 2000000 in
set_option maxRecDepth 100000 in
theorem bettered_any (w : World) (ea : Nat → Addr) (E : ErrsC w ea) :
    Calls Tryz.prog 23 #[] w fun e w' => e = .returned (.bool true) ∧ Keeps (fun _ => False) w w' := by
  have HE := Lib.hid E
  clear E
  go_enter Tryz.func23, Tryz.ntmps23
  go_upto_region 2 with fail
  have h1 := OpsAt.lit w betL 85 3 rfl
  rw [show (opsL betL).toArray = #[.string ⟨#[115, 101, 116]⟩, .int .i64 40, .int .i64 0, .int .i64 0, .int .u32 7, .int .i64 0, .string ⟨#[97, 100, 100]⟩, .int .i64 6, .int .i64 40, .int .i64 40, .int .u32 0, .int .i64 0, .string ⟨#[111, 117, 116]⟩, .int .i64 0, .int .i64 0, .int .i64 0, .int .u32 40, .int .i64 0] from rfl] at h1
  have hk1 := (Keeps.refl (fun _ => False) w).alloc (.cells #[.string ⟨#[115, 101, 116]⟩, .int .i64 40, .int .i64 0, .int .i64 0, .int .u32 7, .int .i64 0, .string ⟨#[97, 100, 100]⟩, .int .i64 6, .int .i64 40, .int .i64 40, .int .u32 0, .int .i64 0, .string ⟨#[111, 117, 116]⟩, .int .i64 0, .int .i64 0, .int .i64 0, .int .u32 40, .int .i64 0] 85)
  rw [show w.heap.size + 1 = (w.alloc (.cells #[.string ⟨#[115, 101, 116]⟩, .int .i64 40, .int .i64 0, .int .i64 0, .int .u32 7, .int .i64 0, .string ⟨#[97, 100, 100]⟩, .int .i64 6, .int .i64 40, .int .i64 40, .int .u32 0, .int .i64 0, .string ⟨#[111, 117, 116]⟩, .int .i64 0, .int .i64 0, .int .i64 0, .int .u32 40, .int .i64 0] 85)).heap.size by simp]
  generalize w.alloc _ = w1 at *
  generalize w.heap.size = g at *
  have h2 := CodeBox.new w1 0 1 (some ⟨g, 0, none⟩) 3 3
  have hk2 := (Keeps.refl (fun _ => False) w1).alloc (.cells #[.int .u32 0, .int .i64 1, .slice (some ⟨g, 0, none⟩) 3 3] 35)
  have HV := Lib.hid (h1.quiet hk2)
  have HK2 := Lib.hid (hk1.trans hk2 (fun _ _ h => h))
  have HC2 := Lib.hid h2
  clear h1 h2 hk1 hk2
  generalize w1.alloc _ = w2 at *
  generalize w1.heap.size = x at *
  obtain ⟨d0, d1, d2, _⟩ := HC2.out.cells
  have HOP := Lib.hid (Opt_any 0 1 2 (some ⟨g, 0, none⟩) 3 3 betL w2 ea (HE.out.quiet HK2.out) HV.out (by decide) bet_ok)
  go_wp2_with fail
  refine HOP.out.mono ?_
  rintro e w3 ⟨⟨cv, ev, rfl, hv3⟩, hk3⟩
  obtain ⟨rfl, A3, cap3, rfl, ho3, hc3⟩ := hv3.good (by rw [bet_fault])
  rw [bet_len] at ho3 ⊢
  have hka := (Keeps.refl (fun _ => False) w3).alloc (.cells #[.int .u32 0, .int .i64 1, .slice A3 2 cap3] 35)
  have HO3 := Lib.hid (ho3.quiet hka)
  have HC3 := Lib.hid ((HC2.out.keep hk3 (fun h => h)).keep hka (fun h => h))
  have HX3 := Lib.hid (CodeBox.new w3 0 1 A3 2 cap3)
  have HK3 := Lib.hid ((HK2.out.trans hk3 (fun _ _ h => h)).trans hka (fun _ _ h => h))
  have HV3 := Lib.hid ((HV.out.quiet hk3).quiet hka)
  clear hv3 hk3 ho3 d0 d1 d2 hka
  go_upto_region 3 with fail
  generalize w3.alloc _ = w4 at *
  generalize w3.heap.size = y at *
  obtain ⟨d0, d1, d2, _⟩ := HC3.out.cells
  have HKN := Lib.hid (Known_any 0 1 (some ⟨g, 0, none⟩) 3 3 betL w4 ea (HE.out.quiet HK3.out) HV3.out (by decide) (fun i hi => bet_ok _ (getD_mem hi)))
  rw [bet_fault1, bet_known] at HKN
  go_wp2_with fail
  refine HKN.out.mono ?_
  rintro e w5 ⟨rfl, hk5⟩
  have HK5 := Lib.hid (HK3.out.trans hk5 (fun _ _ h => h))
  have HX5 := Lib.hid (HX3.out.keep hk5 (fun h => h))
  have HO5 := Lib.hid (HO3.out.quiet hk5)
  clear d0 d1 d2 hk5
  obtain ⟨d0, d1, d2, _⟩ := HX5.out.cells
  have HK2N := Lib.hid (Known_any 0 1 A3 2 cap3 (Ir.opt betL 2) w5 ea (HE.out.quiet HK5.out) HO5.out hc3 (fun i hi => opt_ops_ok (ops_ok_good (Ir.good_of_fault (many := 1) (by rw [bet_fault1])) bet_ok) 2 _ (getD_mem (by rw [bet_len]; exact hi))))
  rw [bet_fault2, bet_known2] at HK2N
  go_wp2_with fail
  refine HK2N.out.mono ?_
  rintro e w6 ⟨rfl, hk6⟩
  have HK6 := Lib.hid (HK5.out.trans hk6 (fun _ _ h => h))
  have HX6 := Lib.hid (HX5.out.keep hk6 (fun h => h))
  have HO6 := Lib.hid (HO5.out.quiet hk6)
  clear d0 d1 d2 hk6
  obtain ⟨d0, d1, d2, _⟩ := HX6.out.cells
  have HDD := Lib.hid (Dead_any 0 1 A3 2 cap3 (Ir.opt betL 2) w6 ea (HE.out.quiet HK6.out) HO6.out hc3)
  rw [bet_fault2, bet_dead2] at HDD
  go_wp2_with fail
  refine HDD.out.mono ?_
  rintro e w7 ⟨rfl, hk7⟩
  have HK7 := Lib.hid (HK6.out.trans hk7 (fun _ _ h => h))
  have HX7 := Lib.hid (HX6.out.keep hk7 (fun h => h))
  clear d0 d1 d2 hk7
  obtain ⟨d0, d1, d2, _⟩ := HX7.out.cells
  go_wp2_with fail
  go_ret
  exact ⟨rfl, HK7.out⟩
end Go.Proofs.YtgmbladcoikffaaGreatDoor

/- Evaluated -/
/- The walk of the law's evaluated: a closed fact. -/
namespace Go.Proofs.YtgmbladcoikffaaGreatDoor
open Go.RowKit Go.Deep
set_option linter.unusedVariables false
set_option linter.unusedSimpArgs false

/-- the code of the closed fact, and its state -/
def evL : List Ir.Op := [⟨⟨#[115, 101, 116]⟩, 5, 0, 0, 7, 0⟩, ⟨⟨#[97, 100, 100]⟩, 6, 5, 5, 0, 0⟩, ⟨⟨#[111, 117, 116]⟩, 0, 0, 0, 40, 0⟩]
def ev0 : Cp.St := ⟨fun _ => 0, 0, 0, 0, 4, false, 0, 0, 0, 0, 0, 0⟩
theorem ev_fault : Ir.fault 1 evL = (0, -1) := by decide +kernel
theorem ev_ok : ∀ o ∈ evL, OpOk o := by
  intro o ho
  simp only [evL, List.mem_cons, List.not_mem_nil, or_false] at ho
  rcases ho with rfl | rfl | rfl <;> exact ⟨by unfold i64R; decide, by unfold i64R; decide, by unfold i64R; decide, by unfold u32R; decide, by unfold i64R; decide⟩
theorem ev_rng : Cp.Rng ev0 := by
  constructor <;> first | (intro k hk; show Cp.W 0; unfold Cp.W; omega) | (unfold ev0 Cp.W; simp) | (unfold ev0; simp)
theorem ev_ready : Ir.ready ev0 0 = true := by decide +kernel
def evX : Nat → Int := Ir.setX (Ir.setX (Ir.mc0 ev0).X 5 7) 6 (Ir.value 10 7 7 0)
theorem ev_run (m : Nat → Int) (W : Int → Bool) : Ir.evGo m W (Ir.mc0 ev0) evL = .leave 40 ⟨evX, []⟩ := by
  have k1 : Ir.kn ⟨#[115, 101, 116]⟩ = 1 := by decide +kernel
  have k2 : Ir.kn ⟨#[97, 100, 100]⟩ = 10 := by decide +kernel
  have k3 : Ir.kn ⟨#[111, 117, 116]⟩ = 8 := by decide +kernel
  unfold evL
  simp [Ir.evGo, k1, k2, k3, Ir.leaves, Ir.doOp, Ir.goesTo]
  refine ⟨?_, rfl⟩
  rw [evX, show Ir.rg (Ir.setX (Ir.mc0 ev0).X 5 7) 5 = 7 from rfl, show Ir.rg (Ir.setX (Ir.mc0 ev0).X 5 7) 6 = 0 from rfl]
theorem ev_six : evX 6 = 14 := by decide +kernel
def evS : Array Value := (stL ev0).toArray
theorem build_ev (w : World) : (Instr.build 26 #[(3, .int .u32 0), (4, .int .u32 4)]).run Tryz.prog w = .ok (.agg evS) w := by kernel_rfl
theorem wpList_build_ev {ops : Array Oper} {rest : List Oper} {o : Oper} {a : Act} {w : World} {Q : Exit → Act → World → Prop} (hgd : o.guard = none) (ho : o.op = .build 26 #[(3, .const (.int .u32 0)), (4, .const (.int .u32 4))])
    (h : wpList Tryz.prog ops Q rest (a.put o.dst (.agg (stL ev0).toArray)) w) : wpList Tryz.prog ops Q (o :: rest) a w := by
  refine wpList_plain hgd fun K' hK' => ?_
  unfold Oper.wp execOp
  simp only [ho, List.map_toArray, List.map_cons, List.map_nil]
  have e := build_ev w
  simp only [Sem.run_bind, Sem.run_pure, Act.eval, e, Result.andThen_ok, Functor.map, Sem.run_map]
  exact hK' _ _ h
theorem ev_eval (g sb r : Nat) (wN w5 wE : World) (ea : Nat → Addr) (E : ErrsC wE ea) (E3 : Errs3 wE ea) (V : OpsAt wE (some ⟨g, 0, none⟩) 3 3 evL) (hS : StAt wE sb ev0) (hN : NewRel wN w5 (fun _ => 0) 0) (hk : Keeps (fun _ => False) w5 wE) (hlt : sb < wN.heap.size) (hr : r = wN.heap.size + 3) :
    Calls Tryz.prog 15 #[.agg #[.int .u32 0, .int .i64 1, .slice (some ⟨g, 0, none⟩) 3 3], .pointer (some ⟨sb, 0, none⟩), .pointer (some ⟨r, 0, none⟩)] wE fun e w' => e = .returned (.tuple #[.agg #[.bool false, .int .i64 0], .nilIface]) ∧ StAt w' sb (Ir.leaveSt ev0 ⟨evX, []⟩ 40 1) ∧ Keeps (fun b => b = sb ∨ b = wN.heap.size) wE w' := by
  subst hr
  refine (eval_run 0 1 (some ⟨g, 0, none⟩) 3 3 evL sb (wN.heap.size + 3) wN.heap.size (wN.heap.size + 1) (wN.heap.size + 2) 16384 ev0 (ramOf 0 fun _ => 0) (fun _ => false) wE ea E E3 V (by decide) (by rw [ev_fault]) ev_ok hS ev_rng (hN.ram.keep hk (fun h => h) (fun h => h)) ((watchAt_none hN.watch rfl).keep hk (fun h => h)) (by decide) ev_ready ⟨by omega, by omega, by omega⟩).mono ?_
  intro e w' h
  rw [ev_run] at h
  exact ⟨h.1, h.2.1, h.2.2.2⟩
set_option maxHeartbeats 4000000 in
set_option maxRecDepth 100000 in
theorem evaluated_any (w : World) (ea : Nat → Addr) (E : ErrsC w ea) (E3 : Errs3 w ea) :
    Calls Tryz.prog 7 #[] w fun e w' => e = .returned (.bool true) ∧ Keeps (fun _ => False) w w' := by
  have HE := Lib.hid E
  have HE3 := Lib.hid E3
  clear E E3
  go_enter Tryz.func7, Tryz.ntmps7
  go_upto_region 1 with fail
  go_wp2_with (first | (with_reducible refine wpList_build_ev rfl rfl ?_) | (with_reducible refine wpList_store_st rfl _ _ rfl _ _ ev0 (blk_alloc_new _ _) (by simp) rfl rfl ?_))
  intro w2 hS2 hk2
  have hk2' := ((Keeps.refl (fun _ => False) w).alloc _).trans hk2 (fun j hj e => absurd (show j = w.heap.size from e) (Nat.ne_of_lt hj))
  have HS2 := Lib.hid hS2
  have HK2 := Lib.hid hk2'
  have HLT2 := Lib.hid hS2.lt
  clear hS2 hk2 hk2'
  obtain ⟨sb, hsb⟩ : ∃ b, w.heap.size = b := ⟨_, rfl⟩
  rw [hsb] at HS2 HLT2 ⊢
  have HSB := Lib.hid hsb
  clear hsb
  go_upto_region 3 with fail
  have h1 := OpsAt.lit w2 evL 85 3 rfl
  rw [show (opsL evL).toArray = #[.string ⟨#[115, 101, 116]⟩, .int .i64 5, .int .i64 0, .int .i64 0, .int .u32 7, .int .i64 0, .string ⟨#[97, 100, 100]⟩, .int .i64 6, .int .i64 5, .int .i64 5, .int .u32 0, .int .i64 0, .string ⟨#[111, 117, 116]⟩, .int .i64 0, .int .i64 0, .int .i64 0, .int .u32 40, .int .i64 0] from rfl] at h1
  have hk1 := (Keeps.refl (fun _ => False) w2).alloc (.cells #[.string ⟨#[115, 101, 116]⟩, .int .i64 5, .int .i64 0, .int .i64 0, .int .u32 7, .int .i64 0, .string ⟨#[97, 100, 100]⟩, .int .i64 6, .int .i64 5, .int .i64 5, .int .u32 0, .int .i64 0, .string ⟨#[111, 117, 116]⟩, .int .i64 0, .int .i64 0, .int .i64 0, .int .u32 40, .int .i64 0] 85)
  rw [show w2.heap.size + 1 = (w2.alloc (.cells #[.string ⟨#[115, 101, 116]⟩, .int .i64 5, .int .i64 0, .int .i64 0, .int .u32 7, .int .i64 0, .string ⟨#[97, 100, 100]⟩, .int .i64 6, .int .i64 5, .int .i64 5, .int .u32 0, .int .i64 0, .string ⟨#[111, 117, 116]⟩, .int .i64 0, .int .i64 0, .int .i64 0, .int .u32 40, .int .i64 0] 85)).heap.size by simp]
  generalize w2.alloc _ = w3 at *
  generalize w2.heap.size = g at *
  have h2 := CodeBox.new w3 0 1 (some ⟨g, 0, none⟩) 3 3
  have hk3 := (Keeps.refl (fun _ => False) w3).alloc (.cells #[.int .u32 0, .int .i64 1, .slice (some ⟨g, 0, none⟩) 3 3] 35)
  have HV := Lib.hid (h1.quiet hk3)
  have HK4 := Lib.hid ((HK2.out.trans hk1 (fun _ _ h => h)).trans hk3 (fun _ _ h => h))
  have HS4 := Lib.hid ((HS2.out.keep hk1 (fun h => h)).keep hk3 (fun h => h))
  have HC4 := Lib.hid h2
  clear h1 h2 hk1 hk3
  generalize w3.alloc _ = w4 at *
  generalize w3.heap.size = x at *
  obtain ⟨d0, d1, d2, _⟩ := HC4.out.cells
  obtain ⟨B, hB⟩ : ∃ B, w4.heap.size = B := ⟨_, rfl⟩
  have hxB : x < B := by have := HC4.out.lt; omega
  have hsB : sb < B := by have := HS4.out.lt; omega
  have hb4 : B ≤ w4.heap.size := Nat.le_of_eq hB.symm
  have HXS := Lib.hid (show x ≠ sb from by
    rintro rfl
    have h := HC4.out.blk
    rw [show w4.heap[x]? = _ from HS4.out] at h
    injection h with h
    injection h with _ h2
    exact absurd h2 (by decide))
  have hxs : ¬ (x = sb ∨ B ≤ x) := fun h => h.elim HXS.out (fun h => by omega)
  have HBB := Lib.hid hB
  clear hB
  have HWB := Lib.hid (show w.heap.size ≤ B from by rw [← HBB.out]; exact HK4.out.size)
  have HNW := Lib.hid (fun (w' : World) => new_any 0 0 none w' (fun _ => 0) ⟨Nat.le_refl _, .inl rfl⟩ (by decide) (fun i hi => absurd hi (Nat.not_lt_zero _)))
  go_cut [3, 4] (fun s3 s4 wx => ∃ y, s3 = .pointer (some ⟨y, 0, none⟩) ∧ s4 = .nilIface ∧ EndBox wx y false 0 ∧ StAt wx sb (Ir.leaveSt ev0 ⟨evX, []⟩ 40 1) ∧ Keeps (fun b => b = sb ∨ B ≤ b) w4 wx)
  case first =>
    go_region_held3 (fun w' => Keeps (fun b => b = sb ∨ B ≤ b) w4 w' ∧ w'.cell? ⟨x, 0, none⟩ = some (.int .u32 0) ∧ w'.cell? ⟨x, 1, none⟩ = some (.int .i64 1) ∧ w'.cell? ⟨x, 2, none⟩ = some (.slice (some ⟨g, 0, none⟩) 3 3))
      (first | (refine ⟨?_, ?_, ?_, ?_⟩ <;> first | ((repeat (first | (with_reducible assumption) | (with_reducible (exact Keeps.refl _ _)) | (with_reducible (apply Keeps.drew)) | (with_reducible (apply Keeps.alloc)) | (refine Keeps.setCell (S := fun b => b = sb ∨ B ≤ b) (a := ⟨_, _, none⟩) ?_ (fun _ => .inr (by first | assumption | omega)) _))); done) | (refine Keeps.cell' (S := fun b => b = sb ∨ B ≤ b) (w := w4) ?_ (by assumption) hxs; (repeat (first | (with_reducible assumption) | (with_reducible (exact Keeps.refl _ _)) | (with_reducible (apply Keeps.drew)) | (with_reducible (apply Keeps.alloc)) | (refine Keeps.setCell (S := fun b => b = sb ∨ B ≤ b) (a := ⟨_, _, none⟩) ?_ (fun _ => .inr (by first | assumption | omega)) _))); done)) | (trace_state; fail))
      (first
        | (go_at_call 40; refine (HNW.out _).mono ?_; rintro e w5 ⟨rfl, hn5⟩; have hq5 : Keeps (fun b => b = sb ∨ B ≤ b) w4 w5 := Keeps.trans (by (repeat (first | (with_reducible assumption) | (with_reducible (exact Keeps.refl _ _)) | (with_reducible (apply Keeps.drew)) | (with_reducible (apply Keeps.alloc)) | (refine Keeps.setCell (S := fun b => b = sb ∨ B ≤ b) (a := ⟨_, _, none⟩) ?_ (fun _ => .inr (by first | assumption | omega)) _))); done) (hn5.keeps.mono (fun _ _ h => h.elim)) (fun _ _ h => h); have hf5 : Keeps (fun _ => False) w4 w5 := Keeps.trans (by (repeat (first | (with_reducible assumption) | (with_reducible (exact Keeps.refl _ _)) | (with_reducible (apply Keeps.drew)) | (with_reducible (apply Keeps.alloc)))); done) hn5.keeps (fun _ _ h => h); have hb5 : B ≤ w5.heap.size := Nat.le_trans hb4 hq5.size)
        | (go_at_call 15; refine (ev_eval g sb _ _ w5 _ ea (HE.out.quiet (HK4.out.trans (Keeps.trans hf5 (by (repeat (first | (with_reducible assumption) | (with_reducible (exact Keeps.refl _ _)) | (with_reducible (apply Keeps.drew)) | (with_reducible (apply Keeps.alloc)))); done) (fun _ _ h => h)) (fun _ _ h => h))) (HE3.out.keep (HK4.out.trans (Keeps.trans hf5 (S := fun _ => False) (by (repeat (first | (with_reducible assumption) | (with_reducible (exact Keeps.refl _ _)) | (with_reducible (apply Keeps.drew)) | (with_reducible (apply Keeps.alloc)))); done) (fun _ _ h => h)) (fun _ _ h => h)) ⟨fun h => h, fun h => h, fun h => h⟩) (HV.out.quiet (Keeps.trans hf5 (by (repeat (first | (with_reducible assumption) | (with_reducible (exact Keeps.refl _ _)) | (with_reducible (apply Keeps.drew)) | (with_reducible (apply Keeps.alloc)))); done) (fun _ _ h => h))) (HS4.out.keep (Keeps.trans hf5 (S := fun _ => False) (by (repeat (first | (with_reducible assumption) | (with_reducible (exact Keeps.refl _ _)) | (with_reducible (apply Keeps.drew)) | (with_reducible (apply Keeps.alloc)))); done) (fun _ _ h => h)) (fun h => h)) hn5 (by (repeat (first | (with_reducible assumption) | (with_reducible (exact Keeps.refl _ _)) | (with_reducible (apply Keeps.drew)) | (with_reducible (apply Keeps.alloc)))); done) (by first | (show sb < w4.heap.size; omega) | (have hh := nblk_alloc w4 (.cells #[.bool false, .int .i64 0] 45); show sb < (w4.alloc (.cells #[.bool false, .int .i64 0] 45)).heap.size; omega)) (by first | rfl | (simp only [nblk_alloc]; done) | (show _ = (World.alloc _ _).heap.size + 3; rw [nblk_alloc]))).mono ?_; rintro e w6 ⟨rfl, hS6, hk6⟩; have hq6 : Keeps (fun b => b = sb ∨ B ≤ b) w4 w6 := Keeps.trans (by (repeat (first | (with_reducible assumption) | (with_reducible (exact Keeps.refl _ _)) | (with_reducible (apply Keeps.drew)) | (with_reducible (apply Keeps.alloc)) | (refine Keeps.setCell (S := fun b => b = sb ∨ B ≤ b) (a := ⟨_, _, none⟩) ?_ (fun _ => .inr (by first | assumption | omega)) _))); done) (hk6.mono (fun b _ h => h.imp id (fun h => by first | (have h2 : b = w4.heap.size := h; omega) | (have hh := nblk_alloc w4 (.cells #[.bool false, .int .i64 0] 45); have h2 : b = (w4.alloc (.cells #[.bool false, .int .i64 0] 45)).heap.size := h; omega)))) (fun _ _ h => h); have hb6 : B ≤ w6.heap.size := Nat.le_trans hb4 hq6.size; (first | (have hz6 : EndBox w6 w4.heap.size false 0 := EndBox.keep (S := fun b => b = sb ∨ b = _) (EndBox.keep (S := fun _ => False) (EndBox.keep (S := fun _ => False) (EndBox.new w4 false 0) ((Keeps.refl _ _).drew) (fun h => h)) hn5.keeps (fun h => h)) hk6 (fun h => by have hh := nblk_alloc w4 (.cells #[.bool false, .int .i64 0] 45); rcases h with h | h; (omega); (have h2 : w4.heap.size = (w4.alloc (.cells #[.bool false, .int .i64 0] 45)).heap.size := h; omega)); have HZ6 := Lib.hid hz6; obtain ⟨z0, z1, z2, z3⟩ := hz6.cells; clear hz6) | (have hz6 : EndBox w6 w5.heap.size false 0 := EndBox.keep (S := fun b => b = sb ∨ b = _) (EndBox.new w5 false 0) hk6 (fun h => by have hh := hn5.size; have hh2 : w4.heap.size + 3 < w5.heap.size := hh; rcases h with h | h; (omega); (have h2 : w5.heap.size = w4.heap.size := h; omega)); have HZ6 := Lib.hid hz6; obtain ⟨z0, z1, z2, z3⟩ := hz6.cells; clear hz6) | skip)))
    · have HE7 := Lib.hid (EndBox.new w6 false 0)
      have hka := (Keeps.refl (fun _ => False) w6).alloc (.cells #[.bool false, .int .i64 0] 45)
      have HS7 := Lib.hid (hS6.keep hka (fun h => h))
      have HK7 := Lib.hid (hq6.trans (hka.mono (T := fun b => b = sb ∨ B ≤ b) (fun _ _ h => h.elim)) (fun _ _ h => h))
      clear hka hS6 hk6 hq6 hf5 hn5
      go_wp2_with fail
      go_meet
      exact ⟨_, rfl, rfl, HE7.out, HS7.out, HK7.out⟩
    · have hz := HZ6.out.put (t' := false) (a' := 0)
      have HE7 := Lib.hid hz.1
      have HS7 := Lib.hid (hS6.keep hz.2 (fun e => by have e : sb = w5.heap.size := e; omega))
      have HK7 := Lib.hid (hq6.trans (hz.2.mono (T := fun b => b = sb ∨ B ≤ b) (fun b _ e => .inr (by have e : b = w5.heap.size := e; omega))) (fun _ _ h => h))
      clear hz hS6 hk6 hq6 hf5 hn5 z0 z1 z2 z3
      go_wp2_with fail
      go_meet
      exact ⟨_, rfl, rfl, HE7.out, HS7.out, HK7.out⟩
    · have hz := HZ6.out.put (t' := false) (a' := 0)
      have HE7 := Lib.hid hz.1
      have HS7 := Lib.hid (hS6.keep hz.2 (fun e => by have e : sb = w4.heap.size := e; omega))
      have HK7 := Lib.hid (hq6.trans (hz.2.mono (T := fun b => b = sb ∨ B ≤ b) (fun b _ e => .inr (by have e : b = w4.heap.size := e; omega))) (fun _ _ h => h))
      clear hz hS6 hk6 hq6 hf5 hn5 z0 z1 z2 z3
      go_wp2_with fail
      go_meet
      exact ⟨_, rfl, rfl, HE7.out, HS7.out, HK7.out⟩
  case rest =>
    obtain ⟨y, rfl, rfl, hE, hS, hK⟩ := hcut
    have HKF := Lib.hid (show Keeps (fun _ => False) w wc from HK4.out.trans hK (fun b hb h => by have h1 := HSB.out; have h2 := HWB.out; rcases h with h | h <;> omega))
    obtain ⟨r0, r1, _, _⟩ := hE.cells
    have s6 := hS.reg 6 (by omega)
    obtain ⟨_, _, p2, p3, _, _, _, _, _, _, p10⟩ := hS.cells
    rw [show (Ir.leaveSt ev0 ⟨evX, []⟩ 40 1).R 6 = 14 from ev_six] at s6
    rw [show (Ir.leaveSt ev0 ⟨evX, []⟩ 40 1).pc = 40 from rfl] at p2
    rw [show (Ir.leaveSt ev0 ⟨evX, []⟩ 40 1).next = 44 from rfl] at p3
    rw [show (Ir.leaveSt ev0 ⟨evX, []⟩ 40 1).count = 1 from rfl] at p10
    clear hE hS hK d0 d1 d2
    go_wp2_with fail
    go_ret
    exact ⟨rfl, HKF.out⟩
end Go.Proofs.YtgmbladcoikffaaGreatDoor
