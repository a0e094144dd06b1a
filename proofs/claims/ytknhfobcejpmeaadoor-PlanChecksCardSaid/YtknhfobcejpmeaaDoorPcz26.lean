import Derived.Test.YtknhfobcejpmeaaDoorPcz04
import Derived.Test.YtknhfobcejpmeaaDoorPcz03
import Derived.Test.YtknhfobcejpmeaaDoorPcz01
import Derived.Maps.OwnOps
import Derived.Maps.OwnSet
import Derived.Test.YtknhfobcejpmeaaDoorStDefs
import Derived.DeepKeys
import Derived.Deep.MidRow
import Derived.Test.YtknhfobcejpmeaaDoorStored
import Derived.Test.YtknhfobcejpmeaaDoorPcz06
import Derived.Laws.Rows
import Derived.Test.YtknhfobcejpmeaaDoorPcz24
import Derived.Test.YtknhfobcejpmeaaDoorPcz25
import Derived.Test.YtknhfobcejpmeaaDoorPcz16

/- Place -/
/- The walks of Watch, memory. -/
namespace Go.Proofs.YtknhfobcejpmeaaDoor
open Go.RowKit Go.Deep
set_option linter.unusedVariables false
set_option linter.unusedSimpArgs false

theorem zeroB (w : World) : (zeroValue 4).run Tryd.prog w = .ok (.bool false) w := by kernel_rfl
set_option maxRecDepth 100000 in
theorem watchAt_owns {w : World} {pw n : Nat} {D : DataW Unit} {f : Int → Bool} (h : w.ownsMap Tryd.prog 3 (plainElem Tryd.prog 4) pw n D) (hD : ∀ p : Int, 0 ≤ p → p < 64 → D.atKey (.int .i64 p) (.lit (.bool false)) = .lit (.bool (f p))) : WatchAt w pw f := by
  obtain ⟨es, c, hb, hf, hs, hd⟩ := h
  refine ⟨es, c, hb, fun w' hb' p h0 h1 => ?_⟩
  have hown : w'.ownsMap Tryd.prog 3 (plainElem Tryd.prog 4) pw n D := ⟨es, c, hb', hf, hs, hd⟩
  obtain ⟨v, ps, hrun, hv⟩ := hown.lookup mapK Tryd.underlying108 (zeroB w') (plainElem_bool Tryd.underlying4 false) (Maps.keyOf_int_mk Tryd.underlying3 (wf_i (show i64R p from ⟨by omega, by omega⟩)))
  rw [hD p h0 h1] at hv
  unfold plainElem at hv
  rw [Tryd.underlying4] at hv
  split at hv
  · injection hv with hv
    injection hv with hv _
    injection hv with hv
    injection hv with hv
    rw [hrun, hv]
  · rename_i e2
    cases e2
  · rename_i e2
    cases e2
  · cases hv
/-- nothing is watched -/
theorem watchAt_none {w : World} {pw c : Nat} (hb : w.heap[pw]? = some (.map #[] c)) (hc : c = 0) : WatchAt w pw (fun _ => false) := by
  subst hc
  exact ⟨#[], 0, hb, fun w' hb' p h0 h1 => look_empty w' pw 0 p hb' (wf_i (show i64R p from ⟨by omega, by omega⟩))⟩
/-- what is watched behind Watch of a page -/
def watchF (page : Int) : Int → Bool := fun q => decide (0 ≤ page ∧ page < 64 ∧ q = page)
set_option maxHeartbeats 1000000 in
set_option maxRecDepth 100000 in
theorem watch_any (r pb pw ph cp : Nat) (m : Nat → Int) (page : Int) (w : World) (ea : Nat → Addr) (E : ErrsC w ea) (R : RamAt w r pb pw ph cp m) (hm : w.heap[pw]? = some (.map #[] 0)) :
    Calls Tryd.prog 28 #[.pointer (some ⟨r, 0, none⟩), .int .i64 page, .bool true] w fun e w' => (∃ ev, e = .returned ev) ∧ WatchAt w' pw (watchF page) ∧ Keeps (· = pw) w w' := by
  have hb := E.bound
  by_cases h : 0 ≤ page ∧ page < 64
  · have t1 : decide (page < 0) = false := decide_eq_false (by omega)
    have t2 : decide (64 ≤ page) = false := decide_eq_false (by omega)
    have hbx : w.cell? ⟨r, 1, none⟩ = some (.map (some pw)) := by simp [World.cell?, R.box]
    have hown : w.ownsMap (H := Unit) Tryd.prog 3 (plainElem Tryd.prog 4) pw 0 (.map []) := ⟨#[], 0, hm, ⟨by simp, MapKept.stamped_empty 0, by simp⟩, by simp, rfl⟩
    have hkey := Maps.keyOf_int_mk Tryd.underlying3 (wf_i (show i64R page from ⟨by omega, by omega⟩))
    have HOWN := Lib.hid hown
    have HML := Lib.hid (show 0 < maxLen by decide)
    have HP := Lib.hid h
    clear hown h hm R
    go_enter Tryd.func28, Tryd.ntmps28
    go_wp2_with (at_mapUpdate; refine wpList_mapUpdate_own _ rfl _ _ _ 108 rfl 3 4 mapK Tryd.underlying108 _ pw 0 _ rfl HOWN.out HML.out _ _ _ rfl rfl hkey _ [] (plainElem_bool Tryd.underlying4 true) ?_; intro w4 hown4 hgrow4)
    have HW := Lib.hid (watchAt_owns (f := watchF page) hown4 (fun p h0 h1 => by
      by_cases e : p = page
      · subst e
        rw [Maps.atKey_put_same (by first | exact Maps.isMap_nil | trivial | (unfold Maps.IsMap; simp)) (key_lit _)]
        unfold watchF
        rw [decide_eq_true ⟨h0, h1, rfl⟩]
      · rw [Maps.atKey_put_other (lit_ne e)]
        unfold watchF
        rw [decide_eq_false (fun hh => e hh.2.2)]
        rfl))
    have HK := Lib.hid ((Keeps.refl (fun b => b = pw) w).grown hgrow4 (fun k hk _ => by injection hk with hk; exact hk.symm))
    clear hown4 hgrow4
    go_wp2_with fail
    go_ret
    exact ⟨⟨_, rfl⟩, HW.out, HK.out⟩
  · have HW := Lib.hid (show WatchAt w pw (watchF page) from by
      have e : watchF page = fun _ => false := by
        funext q
        unfold watchF
        exact decide_eq_false (fun hh => h ⟨hh.1, hh.2.1⟩)
      rw [e]
      exact watchAt_none hm rfl)
    clear R hm
    by_cases h1 : page < 0
    · have t1 : decide (page < 0) = true := decide_eq_true h1
      clear h
      go_enter Tryd.func28, Tryd.ntmps28
      go_wp2_with fail
      go_ret
      exact ⟨⟨_, rfl⟩, HW.out, Keeps.refl _ _⟩
    · have t1 : decide (page < 0) = false := decide_eq_false h1
      have t2 : decide (64 ≤ page) = true := decide_eq_true (by omega)
      clear h
      go_enter Tryd.func28, Tryd.ntmps28
      go_wp2_with fail
      go_ret
      exact ⟨⟨_, rfl⟩, HW.out, Keeps.refl _ _⟩
end Go.Proofs.YtknhfobcejpmeaaDoor

/- StEqD -/
/- Two states, or two rows of registers, compared where they are the same. -/
namespace Go.Proofs.YtknhfobcejpmeaaDoor
open Go.RowKit Go.Deep
set_option linter.unusedVariables false

theorem mapM_some {α β : Type} (f : α → Option β) (l : List α) (h : ∀ x ∈ l, ∃ y, f x = some y) : ∃ L, l.mapM f = some L := by
  induction l with
  | nil => exact ⟨[], rfl⟩
  | cons a l ih =>
    obtain ⟨y, hy⟩ := h a (List.mem_cons_self ..)
    obtain ⟨L, hL⟩ := ih fun x hx => h x (List.mem_cons_of_mem _ hx)
    exact ⟨y :: L, by rw [List.mapM_cons, hy, hL]; rfl⟩
theorem lits_int (d : Nat) {t : TypeId} {k : IntKind} (ht : Tryd.prog.underlying t = some (.int k)) (v : Int) (hw : (Lit.int k v).wf = true) : ∃ L, Tryd.prog.keyLits (d + 1) t [.int k v] = some L := by
  refine ⟨[.int k v], ?_⟩
  unfold Program.keyLits
  rw [ht]
  simp only
  rw [if_pos (by simpa using hw)]
theorem wf_W {v : Int} (h : Cp.W v) : (Lit.int .u32 v).wf = true := by
  have e1 : IntKind.u32.min = 0 := by decide
  have e2 : IntKind.u32.max = 4294967295 := by decide
  show (decide (IntKind.u32.min ≤ v) && decide (v ≤ IntKind.u32.max)) = true
  rw [e1, e2]
  unfold Cp.W at h
  simp
  omega
theorem lits_u32 (d : Nat) (v : Int) (h : Cp.W v) : ∃ L, Tryd.prog.keyLits (d + 1) 22 [.int .u32 v] = some L := lits_int d Tryd.underlying22 v (wf_W h)
theorem lits_bool (d : Nat) (b : Bool) : ∃ L, Tryd.prog.keyLits (d + 1) 4 [.bool b] = some L := by
  refine ⟨[.bool b], ?_⟩
  unfold Program.keyLits
  rw [Tryd.underlying4]
theorem cellsOf_u32 : Tryd.prog.cellsOf 22 = 1 := by kernel_rfl
theorem cellsOf_int : Tryd.prog.cellsOf 3 = 1 := by kernel_rfl
theorem cellsOf_bool : Tryd.prog.cellsOf 4 = 1 := by kernel_rfl
theorem take_rest (s : Cp.St) (i : Nat) (v : Value) (h : (restC s)[i]? = some v) : ((stL s).drop (32 + i)).take 1 = [v] := by
  have hlt := (List.getElem?_eq_some_iff.1 h).1
  have : (stL s)[32 + i]? = some v := by
    unfold stL
    rw [List.getElem?_append_right (by rw [regs_len]; omega), regs_len, show 32 + i - 32 = i by omega]
    exact h
  apply List.ext_getElem?
  intro j
  by_cases hj : j = 0
  · subst hj
    rw [List.getElem?_take_of_lt (by omega), List.getElem?_drop]
    exact this
  · rw [List.getElem?_eq_none (by simp; omega), List.getElem?_eq_none (by simp; omega)]
theorem equal_same {t : TypeId} {m : Nat} (hm : m ≤ 10000) (hk : Tryd.prog.keyTypeAt m t = true) (w : World) (cs : List Value) (hf : (Value.agg cs.toArray).formed Tryd.prog t = true) (hL : ∃ L, Tryd.prog.keyLits 5 t cs = some L) :
    (Op.equal t (.agg cs.toArray) (.agg cs.toArray)).run Tryd.prog w = .ok true w := by
  obtain ⟨L, hL⟩ := hL
  obtain ⟨r, hr, hi⟩ := run_equalIn_deep (P := Tryd.prog) (10000 - m) m t hk w 5 5 _ _ L L hf hf hL hL
  rw [show 10000 - m + m = 10000 by omega] at hr
  rw [hi.2 rfl] at hr
  exact hr
/-- '!=' and '==' of two values of cells that are the same -/
theorem run_bin_agg {P : Program} (o : BinOp) (ho : o = .neq ∨ o = .eql) (t : TypeId) (x y : Operand) (cs : Array Value) (w : World) (hg : P.eqGuardType P.depth t = false) (he : (Op.equal t (.agg cs) (.agg cs)).run P w = .ok true w) :
    (do eqGuard o t x y (.agg cs) (.agg cs); binOp o t (.agg cs) (.agg cs) : Sem Value).run P w = .ok (.bool (if o = .eql then true else false)) w := by
  rcases ho with rfl | rfl
  · have h1 : (eqGuard .neq t x y (.agg cs) (.agg cs)).run P w = .ok () w := by
      simp [eqGuard, Sem.run_bind, run_program, hg]
    simp [Sem.run_bind, h1, binOp, he]
  · have h1 : (eqGuard .eql t x y (.agg cs) (.agg cs)).run P w = .ok () w := by
      simp [eqGuard, Sem.run_bind, run_program, hg]
    simp [Sem.run_bind, h1, binOp, he]
theorem wp_bin_agg {P : Program} {op : Oper} {a : Act} {w : World} {K : Act → World → Prop} {Q : Exit → Act → World → Prop} (o : BinOp) (hoo : o = .neq ∨ o = .eql) (t t' : TypeId) (x y : Operand) (ho : op.op = .binOp o t x y t') (cs : Array Value)
    (hx : a.eval x = .agg cs) (hy : a.eval y = .agg cs) (hg : P.eqGuardType P.depth t = false) (he : (Op.equal t (.agg cs) (.agg cs)).run P w = .ok true w) (h : K (a.put op.dst (.bool (if o = .eql then true else false))) w) : op.wp P a w K Q := by
  have hr := run_bin_agg o hoo t x y cs w hg he
  unfold Oper.wp execOp
  simp only [ho, hx, hy]
  rw [Sem.run_bind, hr]
  exact h
end Go.Proofs.YtknhfobcejpmeaaDoor

/- StPutD -/
/- A state of the processor copied: loaded whole, stored whole into a new block. -/
namespace Go.Proofs.YtknhfobcejpmeaaDoor
open Go.RowKit Go.Deep
set_option linter.unusedVariables false

theorem stL_len (s : Cp.St) : (stL s).length = 43 := by simp [stL, regs, restC]
theorem stL_one (s : Cp.St) : (stL s).toArray.all (·.oneCell') = true := by
  refine all_oneCell_toArray fun v hv => ?_
  unfold stL at hv
  rcases List.mem_append.1 hv with h | h
  · unfold regs at h
    obtain ⟨k, _, rfl⟩ := List.mem_map.1 h
    rfl
  · unfold restC at h
    simp only [List.mem_cons, List.not_mem_nil, or_false] at h
    rcases h with rfl | rfl | rfl | rfl | rfl | rfl | rfl | rfl | rfl | rfl | rfl <;> rfl
theorem setCells_block {b : Nat} {T : TypeId} {f : Nat × Nat} : ∀ (vs : List Value) (o : Nat) (w : World) (cs : Array Value), w.heap[b]? = some (.cells cs T f) →
    ∃ cs', (w.setCells b o vs).heap[b]? = some (.cells cs' T f) ∧ cs'.size = cs.size ∧ ∀ j, cs'[j]? = if o ≤ j ∧ j < o + vs.length ∧ j < cs.size then vs[j - o]? else cs[j]?
  | [], o, w, cs, h => ⟨cs, h, rfl, fun j => by rw [if_neg (by simp; omega)]⟩
  | v :: r, o, w, cs, h => by
    obtain ⟨cs', h1, h2, h3⟩ := setCells_block r (o + 1) (w.setCell ⟨b, o, none⟩ v) _ (set_block h o v)
    refine ⟨cs', h1, by rw [h2]; simp, fun j => ?_⟩
    rw [h3 j]
    simp only [Array.size_setIfInBounds, List.length_cons]
    by_cases h4 : o + 1 ≤ j ∧ j < o + 1 + r.length ∧ j < cs.size
    · rw [if_pos h4, if_pos (by omega), show j - o = (j - (o + 1)) + 1 by omega, List.getElem?_cons_succ]
    · rw [if_neg h4]
      by_cases h5 : o = j
      · subst h5
        by_cases h6 : o < cs.size
        · rw [if_pos (by omega)]
          simp [h6]
        · rw [if_neg (by omega), Array.getElem?_eq_none (by simp; omega), Array.getElem?_eq_none (by omega)]
      · rw [if_neg (by omega), Array.getElem?_setIfInBounds_ne h5]
theorem keeps_setCells (b : Nat) : ∀ (vs : List Value) (o : Nat) (w : World), Keeps (· = b) w (w.setCells b o vs)
  | [], _, w => Keeps.refl _ w
  | v :: r, o, w => (Keeps.one w b o v).trans (keeps_setCells b r (o + 1) _) (fun _ _ h => h)
end Go.Proofs.YtknhfobcejpmeaaDoor

/- Place2 -/
/- Places as they come in; the walks of longPlace, memory, placed. -/
namespace Go.Proofs.YtknhfobcejpmeaaDoor
open Go.RowKit Go.Deep
set_option linter.unusedVariables false
set_option linter.unusedSimpArgs false

/-- a place's cells -/
def placeL (s : Cp.St) (A : Option Addr) (n cap : Nat) (page : Int) : List Value := stL s ++ [.slice A n cap, .int .i64 page]
theorem placeL_st (s : Cp.St) (A : Option Addr) (n cap : Nat) (page : Int) (j : Nat) (hj : j < 43) : (placeL s A n cap page)[j]? = (stL s)[j]? := by
  unfold placeL
  rw [List.getElem?_append_left (by rw [stL_len]; exact hj)]
/-- what longPlace answers -/
def LongIs (w : World) (n : Nat) (c : Int) (e : Ending) (w' : World) : Prop := ∃ b, e = .returned (.bool b) ∧ (b = false → n ≤ 200 ∧ 0 ≤ c ∧ c ≤ 1099511627776) ∧ Keeps (fun _ => False) w w'
/-- what memory answers -/
def MemIs (w : World) (n : Nat) (ws : Nat → Int) (page : Int) (e : Ending) (w' : World) : Prop :=
  ∃ r pb pw ph, e = .returned (.pointer (some ⟨r, 0, none⟩)) ∧ RamAt w' r pb pw ph 16384 (ramOf (min n 4096) ws) ∧ WatchAt w' pw (watchF page) ∧ w'.heap[ph]? = some (.map #[] 0) ∧ (w.heap.size ≤ r ∧ w.heap.size ≤ pb ∧ w.heap.size ≤ pw ∧ w.heap.size ≤ ph) ∧ Keeps (fun _ => False) w w'
def st0L : List Value := stL ⟨fun _ => 0, 0, 0, 0, 0, false, 0, 0, 0, 0, 0, 0⟩
theorem st0_lit : st0L.toArray = #[.int .u32 0, .int .u32 0, .int .u32 0, .int .u32 0, .int .u32 0, .int .u32 0, .int .u32 0, .int .u32 0, .int .u32 0, .int .u32 0, .int .u32 0, .int .u32 0, .int .u32 0, .int .u32 0, .int .u32 0, .int .u32 0, .int .u32 0, .int .u32 0, .int .u32 0, .int .u32 0, .int .u32 0, .int .u32 0, .int .u32 0, .int .u32 0, .int .u32 0, .int .u32 0, .int .u32 0, .int .u32 0, .int .u32 0, .int .u32 0, .int .u32 0, .int .u32 0, .int .u32 0, .int .u32 0, .int .u32 0, .int .u32 0, .bool false, .int .u32 0, .int .u32 0, .int .u32 0, .int .u32 0, .int .u32 0, .int .i64 0] := by kernel_rfl
/-- a place's state, as a code at pc begins -/
def Ir.placed (s : Cp.St) (pc : Int) : Cp.St := { s with R := fun k => if k = 0 then 0 else s.R k, pc := pc, next := (pc + 4) % 4294967296, slot := false }
end Go.Proofs.YtknhfobcejpmeaaDoor

/- Coded -/
/- The walks of the law's coded, faulted, model; of Eval without a state. -/
namespace Go.Proofs.YtknhfobcejpmeaaDoor
open Go.RowKit Go.Deep
set_option linter.unusedVariables false
set_option linter.unusedSimpArgs false

theorem ErrsAll.toC {w : World} {ea : Nat → Addr} (E : ErrsAll w ea) : ErrsC w ea := ⟨E.cell 2 (by omega) (by omega), E.cell 3 (by omega) (by omega), E.cell 4 (by omega) (by omega), E.cell 8 (by omega) (by omega)⟩
set_option maxHeartbeats 2000000 in
theorem faulted_any (f : Nat × Int) (hf : f.1 = 0 ∨ (1 ≤ f.1 ∧ f.1 ≤ 10)) (v : Value) (w : World) (ea : Nat → Addr) (E : ErrsAll w ea) (F : FaultIs w ea f v) :
    Calls Tryd.prog 9 #[v, faultV f] w fun e w' => e = .returned (.bool true) ∧ Keeps (fun _ => False) w w' := by
  obtain ⟨c, a⟩ := f
  have HB := Lib.hid (FaultBox.new w c a)
  have HK0 := Lib.hid ((Keeps.refl (fun _ => False) w).alloc (.cells #[.int .i64 c, .int .i64 a] 35))
  have HE := Lib.hid E
  clear E
  unfold faultV
  dsimp only
  simp only at hf F
  rcases F with ⟨h0, rfl⟩ | ⟨h0, h1, rfl⟩ | ⟨h0, h1, b, rfl, hb0, hb1⟩
  · obtain rfl : c = 0 := h0
    go_enter Tryd.func9, Tryd.ntmps9
    go_upto_region 1 with fail
    obtain ⟨c0, c1, _, _⟩ := HB.out.cells
    have HK1 := Lib.hid HK0.out
    generalize w.alloc _ = w1 at *
    generalize w.heap.size = x at *
    go_wp2_with fail
    refine (code_nil _).mono ?_
    rintro e w2 ⟨rfl, rfl⟩
    go_wp2_with fail
    go_ret
    exact ⟨rfl, HK1.out⟩
  · have h0 : c ≠ 0 := h0
    have h1 : a = -1 := h1
    subst h1
    have hc1 : 1 ≤ c := by omega
    have hc2 : c ≤ 10 := by omega
    have t0 : ((c : Int) == 0) = false := by simp; omega
    have HC := Lib.hid (fun w' (k : Keeps (fun _ => False) w w') => code_sent c hc1 hc2 w' ea (HE.out.quiet k))
    unfold errV at HC ⊢
    clear hf h0 hc1 hc2
    go_enter Tryd.func9, Tryd.ntmps9
    go_upto_region 1 with fail
    have HC1 := Lib.hid (HC.out _ HK0.out)
    have HB1 := Lib.hid HB.out
    have HK1 := Lib.hid HK0.out
    clear HC HB HK0
    generalize w.alloc _ = w1 at *
    obtain ⟨x, hx⟩ : ∃ x, w.heap.size = x := ⟨_, rfl⟩
    rw [hx] at HB1 ⊢
    clear hx
    go_wp2_with fail
    refine HC1.out.mono ?_
    rintro e w2 ⟨rfl, hk⟩
    obtain ⟨c0, c1, _, _⟩ := (HB1.out.keep hk (fun h => h)).cells
    have HK2 := Lib.hid (HK1.out.trans hk (fun _ _ h => h))
    clear hk
    go_wp2_with fail
    go_ret
    exact ⟨rfl, HK2.out⟩
  · have h0 : c ≠ 0 := h0
    have hc1 : 1 ≤ c := by omega
    have hc2 : c ≤ 10 := by omega
    have t0 : ((c : Int) == 0) = false := by simp; omega
    have HC := Lib.hid (fun w' (k : Keeps (fun _ => False) w w') => code_fault c hc1 hc2 b a w' ea (HE.out.quiet k) (k.cell' hb0 (fun h => h)) (k.cell' hb1 (fun h => h)))
    clear hf h0 h1 hc1 hc2 hb0 hb1
    go_enter Tryd.func9, Tryd.ntmps9
    go_upto_region 1 with fail
    have HC1 := Lib.hid (HC.out _ HK0.out)
    have HB1 := Lib.hid HB.out
    have HK1 := Lib.hid HK0.out
    clear HC HB HK0
    generalize w.alloc _ = w1 at *
    obtain ⟨x, hx⟩ : ∃ x, w.heap.size = x := ⟨_, rfl⟩
    rw [hx] at HB1 ⊢
    clear hx
    go_wp2_with fail
    refine HC1.out.mono ?_
    rintro e w2 ⟨rfl, hk⟩
    obtain ⟨c0, c1, _, _⟩ := (HB1.out.keep hk (fun h => h)).cells
    have HK2 := Lib.hid (HK1.out.trans hk (fun _ _ h => h))
    clear hk
    go_wp2_with fail
    go_ret
    exact ⟨rfl, HK2.out⟩
/-- what model answers -/
def ModelIs (w : World) (n : Nat) (ws : Nat → Int) (page : Int) (e : Ending) (w' : World) : Prop :=
  ∃ q wb tb hb, e = .returned (.pointer (some ⟨q, 0, none⟩)) ∧ RefAt w' q wb tb hb (ramOf (min n 4096) ws) (fun p => watchF page p) (fun _ => false) ∧ (w.heap.size ≤ q ∧ w.heap.size ≤ wb ∧ w.heap.size ≤ tb ∧ w.heap.size ≤ hb) ∧ Keeps (fun _ => False) w w'
end Go.Proofs.YtknhfobcejpmeaaDoor
