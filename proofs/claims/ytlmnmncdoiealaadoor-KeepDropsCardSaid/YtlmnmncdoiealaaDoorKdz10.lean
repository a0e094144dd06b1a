import Derived.Test.YtlmnmncdoiealaaDoorKdz09
import Derived.Test.YtlmnmncdoiealaaDoorKdz02
import Derived.Test.YtlmnmncdoiealaaDoorKdz00
import Derived.Test.YtlmnmncdoiealaaDoorKdz01

/- OwnRows -/
/- Rows of ops of the call's own, rows within a row; the walk of the law's OwnRows. -/
namespace Go.Proofs.YtlmnmncdoiealaaDoor
open Go.RowKit Go.Deep
set_option linter.unusedVariables false
set_option linter.unusedSimpArgs false

theorem Tryd.info_rowO : (Tryd.prog.info? 36).map (fun i => (i.zero, i.size, i.bytes)) = some (some (.slice none 0 0), 1, 24) := by kernel_rfl
theorem OpsOwn.keepS {S : Nat → Prop} {w w' : World} {B : Nat} {l : List Ir.Op} {v : Value} (h : OpsOwn w B l v) (k : Keeps S w w') (hs : ∀ g, v.ownBlock = some g → ¬ S g) : OpsOwn w' B l v := by
  obtain ⟨A, cap, rfl, ho⟩ := h
  exact ⟨A, cap, rfl, owns_keep ho k hs⟩
theorem OpsOwn.base {w : World} {B B' : Nat} {l : List Ir.Op} {v : Value} (h : OpsOwn w B l v) (hb : B' ≤ B) : OpsOwn w B' l v := by
  obtain ⟨A, cap, rfl, h1, h2⟩ := h
  refine ⟨A, cap, rfl, h1, ?_⟩
  rcases h2 with h | ⟨g, cap, cur, h1, h2, h3⟩
  · exact .inl h
  · exact .inr ⟨g, cap, cur, h1, Nat.le_trans hb h2, h3⟩
/-- a row's block bears its element's type -/
theorem owns_typed {w : World} {B : Nat} {e : TypeId} {size : Nat} {v : Value} {n : Nat} {xs : List Value} (h : w.ownsRow B e size v n xs) {g : Nat} (hg : v.ownBlock = some g) : ∃ cur, w.heap[g]? = some (.cells cur e (0, 0)) := by
  obtain ⟨_, ⟨h4, _⟩ | ⟨g2, cap, cur, h4, h5, h6, _⟩⟩ := h
  · rw [h4] at hg; cases hg
  · rw [h4] at hg
    injection hg with hg
    subst hg
    exact ⟨cur, h6⟩
theorem owns_apart {w : World} {B C : Nat} {e f : TypeId} {s1 s2 : Nat} {v u : Value} {n m : Nat} {xs ys : List Value} (h : w.ownsRow B e s1 v n xs) (k : w.ownsRow C f s2 u m ys) (hne : e ≠ f) : ∀ g, v.ownBlock = some g → ¬ u.ownBlock = some g := fun g h1 h2 => by
  obtain ⟨c1, e1⟩ := owns_typed h h1
  obtain ⟨c2, e2⟩ := owns_typed k h2
  rw [e1] at e2
  injection e2 with e2
  injection e2 with _ e2
  exact hne e2
/-- rows of ops, each of the call's own -/
def RowsOwn (w : World) (B : Nat) (v : Value) (rows : List (List Ir.Op)) : Prop :=
  ∃ vs : List Value, vs.length = rows.length ∧ w.ownsRow B 36 1 v rows.length vs ∧ ∀ j, j < rows.length → OpsOwn w B (rows.getD j []) (vs.getD j (.slice none 0 0))
theorem RowsOwn.quiet {w w' : World} {B : Nat} {v : Value} {rows : List (List Ir.Op)} (h : RowsOwn w B v rows) (k : Keeps (fun _ => False) w w') : RowsOwn w' B v rows := by
  obtain ⟨vs, h1, h2, h3⟩ := h
  exact ⟨vs, h1, owns_keep h2 k (fun _ _ h => h), fun j hj => (h3 j hj).keepS k (fun _ _ h => h)⟩
theorem RowsOwn.nil (w : World) (B : Nat) : RowsOwn w B (.slice none 0 0) [] := ⟨[], rfl, World.ownsRow_nil _ _ _ _, fun j hj => absurd hj (by simp)⟩
theorem op_ne_row : 35 ≠ 36 := by decide
/-- one more -/
theorem RowsOwn.step {w2 w3 : World} {B : Nat} {v v' u : Value} {rows : List (List Ir.Op)} {l : List Ir.Op} {vs : List Value} (h1 : vs.length = rows.length) (h2 : w2.ownsRow B 36 1 v rows.length vs) (h3 : ∀ j, j < rows.length → OpsOwn w2 B (rows.getD j []) (vs.getD j (.slice none 0 0)))
    (hg : OpsOwn w2 B l u) (hk : Keeps (fun k => v.ownBlock = some k) w2 w3) (hown : w3.ownsRow B 36 1 v' (rows.length + 1) (vs ++ [u])) : RowsOwn w3 B v' (rows ++ [l]) := by
  have hkeep : ∀ l u, OpsOwn w2 B l u → OpsOwn w3 B l u := fun l u h => by
    obtain ⟨A, cap, rfl, ho⟩ := h
    exact ⟨A, cap, rfl, owns_keep ho hk (owns_apart ho h2 op_ne_row)⟩
  refine ⟨vs ++ [u], by simp [h1], ?_, fun j hj => ?_⟩
  · rw [List.length_append, List.length_singleton]
    exact hown
  · rw [List.length_append, List.length_singleton] at hj
    by_cases e : j < rows.length
    · have a1 : (vs ++ [u]).getD j (.slice none 0 0) = vs.getD j (.slice none 0 0) := by simp [List.getD_eq_getElem?_getD, List.getElem?_append_left (show j < vs.length by omega)]
      have a2 : (rows ++ [l]).getD j [] = rows.getD j [] := by simp [List.getD_eq_getElem?_getD, List.getElem?_append_left e]
      rw [a1, a2]
      exact hkeep _ _ (h3 j e)
    · obtain rfl : j = rows.length := by omega
      have a1 : (vs ++ [u]).getD rows.length (.slice none 0 0) = u := by rw [← h1]; simp [List.getD_eq_getElem?_getD]
      have a2 : (rows ++ [l]).getD rows.length [] = l := by simp [List.getD_eq_getElem?_getD]
      rw [a1, a2]
      exact hkeep _ _ hg
theorem owns_cell {w : World} {B : Nat} {e : TypeId} {v : Value} {n : Nat} {xs : List Value} (h : w.ownsRow B e 1 v n xs) {g : Nat} (hg : v.ownBlock = some g) {i : Nat} (hi : i < n) (d : Value) : w.cell? ⟨g, i, none⟩ = some (xs.getD i d) := by
  have hl := h.1
  have := h.cells hg i (xs.getD i d) (by rw [List.getD_eq_getElem?_getD, List.getElem?_eq_getElem (by omega)]; rfl)
  rw [Addr.add_lit] at this
  simpa using this
theorem RowsOwn.rows {w : World} {B : Nat} {v : Value} {rows : List (List Ir.Op)} (h : RowsOwn w B v rows) : ∃ A cap, v = .slice A rows.length cap ∧ cap ≤ 9223372036854775807 ∧ RowsAt w A rows.length cap rows := by
  obtain ⟨vs, h1, h2, h3⟩ := h
  obtain ⟨A, cap, rfl⟩ := owns_slice h2
  refine ⟨A, cap, rfl, owns_cap h2, ?_⟩
  have h2' := h2
  obtain ⟨hlen, ⟨h4, h5⟩ | ⟨g, cap', cur, h4, h5, h6, h7, h8, h9, h10⟩⟩ := h2
  · injection h4 with e1 e2 e3
    exact ⟨rfl, by omega, .inl e3⟩
  · injection h4 with e1 e2 e3
    subst e1 e3
    refine ⟨rfl, h7, .inr ⟨g, 0, rfl, (Array.getElem?_eq_some_iff.1 h6).1, fun i hi => ?_⟩⟩
    obtain ⟨Ai, ci, e1, e2⟩ := (h3 i hi)
    have hc := owns_cell h2' (g := g) rfl hi (.slice none 0 0)
    rw [e1] at hc e2
    rw [Nat.zero_add]
    exact ⟨Ai, ci, hc, OpsAt.of_owns e2 rfl, owns_cap e2⟩
end Go.Proofs.YtlmnmncdoiealaaDoor

/- KeepP -/
/- The closures of keep.Put, keep.find, keep.Drop. -/
namespace Go.Proofs.YtlmnmncdoiealaaDoor
open Go.RowKit Go.Deep
set_option linter.unusedVariables false
set_option linter.unusedSimpArgs false

theorem put1_call (k : K4) (pb : Nat) (pc many : Int) (A : Option Addr) (n cap : Nat) (W : World) (h : PlanBox W pb pc many A n cap) :
    Calls Tryd.prog 30 #[.agg (kC k), .pointer (some ⟨pb, 0, none⟩)] W fun e w' => e = .returned (.bool (k.pc == pc)) ∧ Keeps (fun _ => False) W w' := by
  have HB := Lib.hid h
  have HXB := Lib.hid (blk_alloc_new W (.cells #[.int .u32 k.pc, .int .i64 k.many, .slice k.A k.n k.c, .slice k.P k.pn k.pcap] 76))
  have HXK := Lib.hid ((Keeps.refl (fun _ => False) W).alloc (.cells #[.int .u32 k.pc, .int .i64 k.many, .slice k.A k.n k.c, .slice k.P k.pn k.pcap] 76))
  unfold kC
  clear h
  go_enter Tryd.func30, Tryd.ntmps30
  go_upto_region 1 with fail
  have HB1 := Lib.hid (HB.out.keep HXK.out (fun h => h))
  generalize W.alloc _ = w1 at *
  generalize W.heap.size = x at *
  have x0 := cell_atK HXB.out 0
  obtain ⟨d0, _⟩ := HB1.out.cells
  go_wp2_with fail
  go_ret
  exact ⟨rfl, HXK.out⟩
/-- a row of numbers of the call's own -/
def IOwn (w : World) (B : Nat) (l : List Int) (v : Value) : Prop := ∃ A cap, v = .slice A l.length cap ∧ w.ownsRow B 3 1 v l.length (l.map fun x => .int .i64 x)
theorem IOwn.keep {S : Nat → Prop} {w w' : World} {B : Nat} {l : List Int} {v : Value} (h : IOwn w B l v) (k : Keeps S w w') (hs : ∀ g cs fz, w.heap[g]? = some (.cells cs 3 fz) → ¬ S g) : IOwn w' B l v := by
  obtain ⟨A, cap, rfl, ho⟩ := h
  exact ⟨A, cap, rfl, owns_keep ho k (fun g hg => by
    obtain ⟨cur, e⟩ := owns_typed ho hg
    exact hs g cur _ e)⟩
theorem IOwn.reads {w : World} {B : Nat} {l : List Int} {A : Option Addr} {n cap : Nat} (h : IOwn w B l (.slice A n cap)) : n = l.length ∧ cap ≤ 9223372036854775807 ∧ Reads w A n cap (fun i => .int .i64 (l.getD i 0)) := by
  obtain ⟨A', c', e, ho⟩ := h
  injection e with e1 e2 e3
  subst e1 e2 e3
  refine ⟨rfl, owns_cap ho, ?_⟩
  obtain ⟨hlen, ⟨h4, h5⟩ | ⟨g, cap', cur, h4, h5, h6, h7, h8, h9, h10⟩⟩ := ho
  · injection h4 with e1 e2 e3
    subst e3
    exact ⟨by omega, .inl rfl⟩
  · injection h4 with e1 e2 e3
    subst e1 e3
    refine ⟨h7, .inr ⟨g, 0, rfl, (Array.getElem?_eq_some_iff.1 h6).1, fun i hi => ?_⟩⟩
    have e : (l.map fun x => Value.int .i64 x)[i]? = some (.int .i64 (l.getD i 0)) := by
      rw [List.getElem?_map, List.getD_eq_getElem?_getD, List.getElem?_eq_getElem hi]
      rfl
    rw [← h10, List.getElem?_take_of_lt (by omega)] at e
    rw [Nat.zero_add]
    unfold World.cell?
    rw [h6]
    simpa using e
/-- a row of words of the call's own -/
def UOwn (w : World) (B : Nat) (l : List Int) (v : Value) : Prop := ∃ A cap, v = .slice A l.length cap ∧ w.ownsRow B 29 1 v l.length (l.map fun x => .int .u32 x)
theorem UOwn.keep {S : Nat → Prop} {w w' : World} {B : Nat} {l : List Int} {v : Value} (h : UOwn w B l v) (k : Keeps S w w') (hs : ∀ g, v.ownBlock = some g → ¬ S g) : UOwn w' B l v := by
  obtain ⟨A, cap, rfl, ho⟩ := h
  exact ⟨A, cap, rfl, owns_keep ho k hs⟩
theorem UOwn.nil (w : World) (B : Nat) : UOwn w B [] (.slice none 0 0) := ⟨none, 0, rfl, World.ownsRow_nil _ _ _ _⟩
theorem UOwn.typed {w : World} {B : Nat} {l : List Int} {v : Value} (h : UOwn w B l v) : ∀ g, v.ownBlock = some g → ∃ cs, w.heap[g]? = some (.cells cs 29 (0, 0)) := fun g hg => by
  obtain ⟨A, cap, rfl, ho⟩ := h
  exact owns_typed ho hg
theorem Tryd.info_u : (Tryd.prog.info? 29).map (fun i => (i.zero, i.size, i.bytes)) = some (some (.int .u32 0), 1, 4) := by kernel_rfl
set_option maxRecDepth 100000 in
theorem wpList_append_u {w : World} {ops : Array Oper} {rest : List Oper} {o : Oper} {a : Act} {Q : Exit → Act → World → Prop} (hgd : o.guard = none) (s x : Operand)
    (ho : o.op = .call { callee := .builtin .append, args := #[s, x], argTypes := #[40, 40] }) (B : Nat) (l1 : List Int) (v : Value) (hs : a.eval s = v) (h1 : UOwn w B l1 v)
    (g : Nat) (p : Int) (hx : a.eval x = .slice (some ⟨g, 0, none⟩) 1 1) (V2 : ∀ j u, [Value.int .u32 p][j]? = some u → w.cell? ((⟨g, 0, none⟩ : Addr).add j) = some u) (hb : l1.length ≤ 1000000) (hbase : B ≤ w.heap.size)
    (h : ∀ v' w', UOwn w' B (l1 ++ [p]) v' → Keeps (fun k => v.ownBlock = some k) w w' → wpList Tryd.prog ops Q rest (a.put o.dst v') w') : wpList Tryd.prog ops Q (o :: rest) a w := by
  obtain ⟨i0, hi, hz0, hz1, hz2⟩ := info_parts Tryd.info_u
  obtain ⟨A1, c1, rfl, ho1⟩ := h1
  refine wpList_append_mine hgd s x 40 ho B 29 i0 _ 1 4 Tryd.underlying40 hi hz0 hz1 hz2 rfl (by decide) (.slice A1 l1.length c1) l1.length (l1.map fun x => .int .u32 x) hs ho1 ⟨g, 0, none⟩ 1 1 [.int .u32 p] hx rfl V2 (fun u hu => by rw [List.mem_singleton] at hu; subst hu; rfl) (by unfold maxLen; omega) (by omega) hbase ?_
  intro v' w' hown hgrow hmv
  obtain ⟨A', cap', rfl⟩ := owns_slice hown
  refine h _ _ ⟨A', cap', by rw [List.length_append, List.length_singleton], ?_⟩ ((Keeps.refl _ w).grown hgrow (fun k hk _ => hk))
  rw [List.map_append, List.length_append, List.length_singleton]
  exact hown
theorem keep_ne : 3 ≠ 40 ∧ 3 ≠ 29 ∧ 76 ≠ 40 ∧ 76 ≠ 29 ∧ 40 ≠ 29 := by decide
/-- what Drop's closure changes -/
def DropS (db : Nat) (W : World) (b : Nat) : Prop := b = db ∨ ∃ v, W.cell? ⟨db, 0, none⟩ = some v ∧ v.ownBlock = some b
/-- where Drop's closure stands -/
structure DropSt (l : List K4) (pg : K4 → List Int) (page : Int) (gb db B : Nat) (done : List K4) (W : World) : Prop where
  pgb : W.heap[gb]? = some (.cells #[.int .i64 page] 3 (0, 0))
  out : ∃ dv, W.heap[db]? = some (.cells #[dv] 40 (0, 0)) ∧ UOwn W B ((done.filter fun k => (pg k).contains page).map K4.pc) dv
  pages : ∀ k ∈ l, IOwn W 0 (pg k) (.slice k.P k.pn k.pcap)
  len : done.length ≤ l.length
  low : B ≤ W.heap.size
theorem DropSt.ty {l : List K4} {pg : K4 → List Int} {page : Int} {gb db B : Nat} {done : List K4} {W : World} (h : DropSt l pg page gb db B done W) {b : Nat} (hb : DropS db W b) : ∃ cs t fz, W.heap[b]? = some (.cells cs t fz) ∧ (t = 40 ∨ t = 29) := by
  obtain ⟨dv, h1, h2⟩ := h.out
  rcases hb with rfl | ⟨v, hv, hg⟩
  · exact ⟨_, _, _, h1, .inl rfl⟩
  · rw [cell_atK h1 0] at hv
    injection hv with hv
    subst hv
    obtain ⟨cs, h3⟩ := h2.typed _ hg
    exact ⟨_, _, _, h3, .inr rfl⟩
theorem DropSt.quiet {l : List K4} {pg : K4 → List Int} {page : Int} {gb db B : Nat} {done : List K4} {W W' : World} (h : DropSt l pg page gb db B done W) (k : Keeps (fun _ => False) W W') : DropSt l pg page gb db B done W' := by
  obtain ⟨h1, ⟨dv, h2, h3⟩, h4, h5, h6⟩ := h
  exact ⟨(k.block gb (Array.getElem?_eq_some_iff.1 h1).1 (fun h => h)).trans h1, ⟨dv, (k.block db (Array.getElem?_eq_some_iff.1 h2).1 (fun h => h)).trans h2, h3.keep k (fun _ _ h => h)⟩, fun q hq => (h4 q hq).keep k (fun _ _ _ _ h => h), h5, Nat.le_trans h6 k.size⟩
set_option maxHeartbeats 4000000 in
set_option maxRecDepth 100000 in
theorem drop1_call (l : List K4) (pg : K4 → List Int) (page : Int) (gb db B : Nat) (done : List K4) (k : K4) (W : World) (hk : k ∈ l) (hl : done.length < l.length) (hll : l.length ≤ 100000) (h : DropSt l pg page gb db B done W) :
    Calls Tryd.prog 36 #[.agg (kC k), .pointer (some ⟨gb, 0, none⟩), .pointer (some ⟨db, 0, none⟩)] W fun e w' => e = .returned (.bool ((pg k).contains page)) ∧ DropSt l pg page gb db B (done ++ [k]) w' ∧ Keeps (DropS db W) W w' := by
  have HXB := Lib.hid (blk_alloc_new W (.cells #[.int .u32 k.pc, .int .i64 k.many, .slice k.A k.n k.c, .slice k.P k.pn k.pcap] 76))
  have HXK := Lib.hid ((Keeps.refl (fun _ => False) W).alloc (.cells #[.int .u32 k.pc, .int .i64 k.many, .slice k.A k.n k.c, .slice k.P k.pn k.pcap] 76))
  have HD0 := Lib.hid h
  have HTY := Lib.hid (fun b (hb : DropS db W b) => h.ty hb)
  have HLEN := Lib.hid hl
  have HKL := Lib.hid hk
  obtain ⟨q, hq⟩ : ∃ q, (pg k).contains page = q := ⟨_, rfl⟩
  rw [hq]
  have HQE := Lib.hid hq
  unfold kC
  clear h hl hk hq
  go_enter Tryd.func36, Tryd.ntmps36
  go_upto_region 1 with fail
  have HD1 := Lib.hid (HD0.out.quiet HXK.out)
  have HS1 := Lib.hid (show ∀ b, b < W.heap.size → DropS db (W.alloc (.cells #[.int .u32 k.pc, .int .i64 k.many, .slice k.A k.n k.c, .slice k.P k.pn k.pcap] 76)) b → DropS db W b from fun b hb h => by
    rcases h with h | ⟨v, hv, hg⟩
    · exact .inl h
    · obtain ⟨dv, h1, _⟩ := HD0.out.out
      have h2 := HXK.out.cell' (cell_atK h1 0) (fun h => h)
      rw [h2] at hv
      exact .inr ⟨v, by rw [cell_atK h1 0]; exact hv, hg⟩)
  generalize W.alloc _ = w1 at *
  obtain ⟨x, hx⟩ : ∃ x, W.heap.size = x := ⟨_, rfl⟩
  have HXL := Lib.hid (show ∀ b, b < W.heap.size → b < x from fun b hb => by rw [← hx]; exact hb)
  rw [hx] at HXB HS1 ⊢
  clear hx
  have x0 : w1.cell? ⟨x, 0, none⟩ = some (.int .u32 k.pc) := cell_atK HXB.out 0
  have x3 : w1.cell? ⟨x, 3, none⟩ = some (.slice k.P k.pn k.pcap) := cell_atK HXB.out 3
  have hpg : w1.cell? ⟨gb, 0, none⟩ = some (.int .i64 page) := cell_atK HD1.out.pgb 0
  obtain ⟨hn, hc, hr⟩ := (HD1.out.pages k HKL.out).reads
  have HCT := Lib.hid (contains_any k.P k.pn k.pcap (pg k) page w1 hr hn hc)
  rw [HQE.out] at HCT
  clear hr hn hc
  go_wp2_with fail
  refine HCT.out.mono ?_
  rintro e w2 ⟨rfl, rfl⟩
  cases q
  · have HF := Lib.hid (show DropSt l pg page gb db B (done ++ [k]) w2 from by
      obtain ⟨h1, h2, h3, h4, h5⟩ := HD1.out
      refine ⟨h1, ?_, h3, by rw [List.length_append, List.length_singleton]; have := HLEN.out; omega, h5⟩
      rw [List.filter_append, show [k].filter (fun k => (pg k).contains page) = [] by simp only [List.filter_cons, HQE.out]; rfl, List.append_nil]
      exact h2)
    go_wp2_with fail
    go_ret
    exact ⟨rfl, HF.out, HXK.out.mono (fun _ _ h => h.elim)⟩
  · obtain ⟨dv, hd1, hd2⟩ := HD1.out.out
    have hdv : w2.cell? ⟨db, 0, none⟩ = some dv := cell_atK hd1 0
    have hdf : w2.frozen? ⟨db, 0, none⟩ = false := frozen_of_block hd1 0
    have HU := Lib.hid hd2
    have HDB := Lib.hid hd1
    have HFL := Lib.hid (show ((done.filter fun k => (pg k).contains page).map K4.pc).length ≤ 1000000 by
      rw [List.length_map]
      have := List.length_filter_le (fun k => (pg k).contains page) done
      have := HLEN.out
      omega)
    have HKA := Lib.hid ((Keeps.refl (fun _ => False) w2).alloc (.cells #[.int .u32 k.pc] 29))
    have HCN := Lib.hid (fun j u hj => cells_new w2 [.int .u32 k.pc] 29 j u hj)
    have HLOW := Lib.hid HD1.out.low
    obtain ⟨ul, hul⟩ : ∃ x, (done.filter fun k => (pg k).contains page).map K4.pc = x := ⟨_, rfl⟩
    rw [hul] at HU HFL
    have HUL := Lib.hid hul
    have HUA := Lib.hid (HU.out.keep HKA.out (fun _ _ h => h))
    have HBS := Lib.hid (show B ≤ (w2.alloc (.cells #[.int .u32 k.pc] 29)).heap.size by rw [nblk_alloc]; have := HLOW.out; omega)
    clear hd1 hd2 hul
    obtain ⟨A5, c5, hv5, _⟩ := HU.out
    subst hv5
    obtain ⟨un, hun⟩ : ∃ x, ul.length = x := ⟨_, rfl⟩
    rw [hun] at hdv HUA HU HDB
    clear hun
    go_wp2_with (at_builtin; go_loud (refine wpList_append_u rfl _ _ rfl B ul (.slice A5 un c5) rfl HUA.out w2.heap.size k.pc rfl HCN.out HFL.out HBS.out ?c0))
    case c0 =>
      intro v' w3 hown hk3
      obtain ⟨A6, c6, hv6, _⟩ := id hown
      obtain ⟨u6, hu6⟩ : ∃ n, (ul ++ [k.pc]).length = n := ⟨_, rfl⟩
      rw [hu6] at hv6
      subst hv6
      clear hu6
      obtain ⟨v', hv'⟩ : ∃ v, Value.slice A6 u6 c6 = v := ⟨_, rfl⟩
      rw [hv'] at hown
      have hk23 : Keeps (DropS db w2) w2 w3 := (HKA.out.mono (T := DropS db w2) (fun _ _ h => h.elim)).trans (hk3.mono (T := DropS db w2) (fun b _ hb => .inr ⟨_, hdv, hb⟩)) (fun _ _ h => h)
      have hndb : ∀ b, (Value.slice A5 un c5).ownBlock = some b → b ≠ db := fun b hb e => by
        obtain ⟨cs, h1⟩ := HU.out.typed b hb
        rw [e, HDB.out] at h1
        injection h1 with h1
        injection h1 with _ h2 _
        exact keep_ne.2.2.2.2 h2
      have HDB3 := Lib.hid (show w3.heap[db]? = some (.cells #[.slice A5 un c5] 40 (0, 0)) from by
        have h1 := (HKA.out.block db (Array.getElem?_eq_some_iff.1 HDB.out).1 (fun h => h)).trans HDB.out
        exact (hk3.block db (Array.getElem?_eq_some_iff.1 h1).1 (fun h => hndb db h rfl)).trans h1)
      have HUV := Lib.hid (show UOwn (w3.setCell ⟨db, 0, none⟩ v') B (ul ++ [k.pc]) v' from hown.keep (Keeps.one w3 db 0 v') (fun g hg e => by
        have e : g = db := e
        obtain ⟨cs, h1⟩ := hown.typed g hg
        rw [e, HDB3.out] at h1
        injection h1 with h1
        injection h1 with _ h2 _
        exact keep_ne.2.2.2.2 h2))
      have HK4 := Lib.hid (show Keeps (DropS db w2) w2 (w3.setCell ⟨db, 0, none⟩ v') from hk23.trans ((Keeps.one w3 db 0 v').mono (T := DropS db w2) (fun b _ e => .inl e)) (fun _ _ h => h))
      have HDB4 := Lib.hid (show (w3.setCell ⟨db, 0, none⟩ v').heap[db]? = some (.cells #[v'] 40 (0, 0)) from by
        have := set_block HDB3.out 0 v'
        simpa using this)
      have HNT := Lib.hid (show ∀ b cs fz, w2.heap[b]? = some (.cells cs 3 fz) → ¬ DropS db w2 b from fun b cs fz hb hs => by
        obtain ⟨cs2, t, fz2, h1, h2⟩ := HD1.out.ty hs
        rw [hb] at h1
        injection h1 with h1
        injection h1 with _ e _
        rcases h2 with h2 | h2
        · exact keep_ne.1 (e.trans h2)
        · exact keep_ne.2.1 (e.trans h2))
      have HF := Lib.hid (show DropSt l pg page gb db B (done ++ [k]) (w3.setCell ⟨db, 0, none⟩ v') from by
        obtain ⟨h1, _, h3, h4, h5⟩ := HD1.out
        refine ⟨(HK4.out.block gb (Array.getElem?_eq_some_iff.1 h1).1 (HNT.out _ _ _ h1)).trans h1, ⟨v', HDB4.out, ?_⟩, fun q hq => (h3 q hq).keep HK4.out HNT.out, by rw [List.length_append, List.length_singleton]; have := HLEN.out; omega, Nat.le_trans h5 HK4.out.size⟩
        rw [List.filter_append, show [k].filter (fun k => (pg k).contains page) = [k] by simp only [List.filter_cons, HQE.out]; rfl, List.map_append, HUL.out]
        exact HUV.out)
      have HKF := Lib.hid (show Keeps (DropS db W) W (w3.setCell ⟨db, 0, none⟩ v') from (HXK.out.mono (T := DropS db W) (fun _ _ h => h.elim)).trans HK4.out (fun b hb h => HS1.out b (HXL.out b hb) h))
      have hdv3 : w3.cell? ⟨db, 0, none⟩ = some (.slice A5 un c5) := cell_atK HDB3.out 0
      have hdf3 : w3.frozen? ⟨db, 0, none⟩ = false := frozen_of_block HDB3.out 0
      rw [← hv'] at HF HKF
      clear HUV HK4 HDB4
      clear hown hk3 hk23 hndb hdv hdf x0 x3 hpg hv'
      go_wp2_with fail
      go_ret
      exact ⟨rfl, HF.out, HKF.out⟩
theorem drop1_pred (l : List K4) (pg : K4 → List Int) (page : Int) (gb db B : Nat) (hll : l.length ≤ 100000) : PredK 36 #[.pointer (some ⟨gb, 0, none⟩), .pointer (some ⟨db, 0, none⟩)] (fun k => (pg k).contains page) l (DropS db) (DropSt l pg page gb db B) where
  call := fun done k W hk hl h => drop1_call l pg page gb db B done k W hk hl hll h
  ty := fun done W b cs fz h hb hs => by
    obtain ⟨cs2, t, fz2, h1, h2⟩ := h.ty hs
    rw [hb] at h1
    injection h1 with h1
    injection h1 with _ e _
    rcases h2 with h2 | h2
    · exact keep_ne.2.2.1 (e.trans h2)
    · exact keep_ne.2.2.2.1 (e.trans h2)
  quiet := fun done W W' k h => h.quiet k
/-- Put's closure: the same place -/
theorem put1_pred (l : List K4) (pb : Nat) (pc many : Int) (A : Option Addr) (n cap : Nat) : PredK 30 #[.pointer (some ⟨pb, 0, none⟩)] (fun k => k.pc == pc) l (fun _ _ => False) (fun _ W => PlanBox W pb pc many A n cap) where
  call := fun done k W _ _ h => (put1_call k pb pc many A n cap W h).mono fun e w' hh => ⟨hh.1, h.keep hh.2 (fun h => h), hh.2⟩
  ty := fun _ _ _ _ _ _ _ h => h
  quiet := fun _ _ _ k h => h.keep k (fun h => h)
end Go.Proofs.YtlmnmncdoiealaaDoor
