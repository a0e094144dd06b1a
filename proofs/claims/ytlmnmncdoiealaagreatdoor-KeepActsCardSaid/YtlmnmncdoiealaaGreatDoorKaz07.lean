import Derived.Test.YtlmnmncdoiealaaGreatDoorKaz00
import Derived.Test.YtlmnmncdoiealaaGreatDoorKaz02
import Derived.Test.YtlmnmncdoiealaaGreatDoorKaz06
import Derived.Test.YtlmnmncdoiealaaGreatDoorKaz01
import Derived.Test.YtlmnmncdoiealaaGreatDoorKaz03

/- KeepP -/
/- The closures of keep.Put, keep.find, keep.Drop. -/
namespace Go.Proofs.YtlmnmncdoiealaaGreatDoor
open Go.RowKit Go.Deep
set_option linter.unusedVariables false
set_option linter.unusedSimpArgs false

theorem put1_call (k : K4) (pb : Nat) (pc many : Int) (A : Option Addr) (n cap : Nat) (W : World) (h : PlanBox W pb pc many A n cap) :
    Calls Tryz.prog 30 #[.agg (kC k), .pointer (some ⟨pb, 0, none⟩)] W fun e w' => e = .returned (.bool (k.pc == pc)) ∧ Keeps (fun _ => False) W w' := by
  have HB := Lib.hid h
  have HXB := Lib.hid (blk_alloc_new W (.cells #[.int .u32 k.pc, .int .i64 k.many, .slice k.A k.n k.c, .slice k.P k.pn k.pcap] 77))
  have HXK := Lib.hid ((Keeps.refl (fun _ => False) W).alloc (.cells #[.int .u32 k.pc, .int .i64 k.many, .slice k.A k.n k.c, .slice k.P k.pn k.pcap] 77))
  unfold kC
  clear h
  go_enter Tryz.func30, Tryz.ntmps30
  go_upto_region 1 with fail
  have HB1 := Lib.hid (HB.out.keep HXK.out (fun h => h))
  generalize W.alloc _ = w1 at *
  generalize W.heap.size = x at *
  have x0 := cell_atK HXB.out 0
  obtain ⟨d0, _⟩ := HB1.out.cells
  go_wp2_with fail
  go_ret
  exact ⟨rfl, HXK.out⟩
/-- a row of numbers of the call's own -/
def IOwn (w : World) (B : Nat) (l : List Int) (v : Value) : Prop := ∃ A cap, v = .slice A l.length cap ∧ w.ownsRow B 3 1 v l.length (l.map fun x => .int .i64 x)
theorem IOwn.keep {S : Nat → Prop} {w w' : World} {B : Nat} {l : List Int} {v : Value} (h : IOwn w B l v) (k : Keeps S w w') (hs : ∀ g cs fz, w.heap[g]? = some (.cells cs 3 fz) → ¬ S g) : IOwn w' B l v := by
  obtain ⟨A, cap, rfl, ho⟩ := h
  exact ⟨A, cap, rfl, owns_keep ho k (fun g hg => by
    obtain ⟨cur, e⟩ := owns_typed ho hg
    exact hs g cur _ e)⟩
theorem IOwn.reads {w : World} {B : Nat} {l : List Int} {A : Option Addr} {n cap : Nat} (h : IOwn w B l (.slice A n cap)) : n = l.length ∧ cap ≤ 9223372036854775807 ∧ Reads w A n cap (fun i => .int .i64 (l.getD i 0)) := by
  obtain ⟨A', c', e, ho⟩ := h
  injection e with e1 e2 e3
  subst e1 e2 e3
  refine ⟨rfl, owns_cap ho, ?_⟩
  obtain ⟨hlen, ⟨h4, h5⟩ | ⟨g, cap', cur, h4, h5, h6, h7, h8, h9, h10⟩⟩ := ho
  · injection h4 with e1 e2 e3
    subst e3
    exact ⟨by omega, .inl rfl⟩
  · injection h4 with e1 e2 e3
    subst e1 e3
    refine ⟨h7, .inr ⟨g, 0, rfl, (Array.getElem?_eq_some_iff.1 h6).1, fun i hi => ?_⟩⟩
    have e : (l.map fun x => Value.int .i64 x)[i]? = some (.int .i64 (l.getD i 0)) := by
      rw [List.getElem?_map, List.getD_eq_getElem?_getD, List.getElem?_eq_getElem hi]
      rfl
    rw [← h10, List.getElem?_take_of_lt (by omega)] at e
    rw [Nat.zero_add]
    unfold World.cell?
    rw [h6]
    simpa using e
/-- a row of words of the call's own -/
def UOwn (w : World) (B : Nat) (l : List Int) (v : Value) : Prop := ∃ A cap, v = .slice A l.length cap ∧ w.ownsRow B 34 1 v l.length (l.map fun x => .int .u32 x)
theorem UOwn.keep {S : Nat → Prop} {w w' : World} {B : Nat} {l : List Int} {v : Value} (h : UOwn w B l v) (k : Keeps S w w') (hs : ∀ g, v.ownBlock = some g → ¬ S g) : UOwn w' B l v := by
  obtain ⟨A, cap, rfl, ho⟩ := h
  exact ⟨A, cap, rfl, owns_keep ho k hs⟩
theorem UOwn.nil (w : World) (B : Nat) : UOwn w B [] (.slice none 0 0) := ⟨none, 0, rfl, World.ownsRow_nil _ _ _ _⟩
theorem UOwn.typed {w : World} {B : Nat} {l : List Int} {v : Value} (h : UOwn w B l v) : ∀ g, v.ownBlock = some g → ∃ cs, w.heap[g]? = some (.cells cs 34 (0, 0)) := fun g hg => by
  obtain ⟨A, cap, rfl, ho⟩ := h
  exact owns_typed ho hg
theorem Tryz.info_u : (Tryz.prog.info? 34).map (fun i => (i.zero, i.size, i.bytes)) = some (some (.int .u32 0), 1, 4) := by kernel_rfl
set_option maxRecDepth 100000 in
theorem wpList_append_u {w : World} {ops : Array Oper} {rest : List Oper} {o : Oper} {a : Act} {Q : Exit → Act → World → Prop} (hgd : o.guard = none) (s x : Operand)
    (ho : o.op = .call { callee := .builtin .append, args := #[s, x], argTypes := #[57, 57] }) (B : Nat) (l1 : List Int) (v : Value) (hs : a.eval s = v) (h1 : UOwn w B l1 v)
    (g : Nat) (p : Int) (hx : a.eval x = .slice (some ⟨g, 0, none⟩) 1 1) (V2 : ∀ j u, [Value.int .u32 p][j]? = some u → w.cell? ((⟨g, 0, none⟩ : Addr).add j) = some u) (hb : l1.length ≤ 1000000) (hbase : B ≤ w.heap.size)
    (h : ∀ v' w', UOwn w' B (l1 ++ [p]) v' → Keeps (fun k => v.ownBlock = some k) w w' → wpList Tryz.prog ops Q rest (a.put o.dst v') w') : wpList Tryz.prog ops Q (o :: rest) a w := by
  obtain ⟨i0, hi, hz0, hz1, hz2⟩ := info_parts Tryz.info_u
  obtain ⟨A1, c1, rfl, ho1⟩ := h1
  refine wpList_append_mine hgd s x 57 ho B 34 i0 _ 1 4 Tryz.underlying57 hi hz0 hz1 hz2 rfl (by decide) (.slice A1 l1.length c1) l1.length (l1.map fun x => .int .u32 x) hs ho1 ⟨g, 0, none⟩ 1 1 [.int .u32 p] hx rfl V2 (fun u hu => by rw [List.mem_singleton] at hu; subst hu; rfl) (by unfold maxLen; omega) (by omega) hbase ?_
  intro v' w' hown hgrow hmv
  obtain ⟨A', cap', rfl⟩ := owns_slice hown
  refine h _ _ ⟨A', cap', by rw [List.length_append, List.length_singleton], ?_⟩ ((Keeps.refl _ w).grown hgrow (fun k hk _ => hk))
  rw [List.map_append, List.length_append, List.length_singleton]
  exact hown
theorem keep_ne : 3 ≠ 57 ∧ 3 ≠ 34 ∧ 77 ≠ 57 ∧ 77 ≠ 34 ∧ 57 ≠ 34 := by decide
/-- what Drop's closure changes -/
def DropS (db : Nat) (W : World) (b : Nat) : Prop := b = db ∨ ∃ v, W.cell? ⟨db, 0, none⟩ = some v ∧ v.ownBlock = some b
/-- where Drop's closure stands -/
structure DropSt (l : List K4) (pg : K4 → List Int) (page : Int) (gb db B : Nat) (done : List K4) (W : World) : Prop where
  pgb : W.heap[gb]? = some (.cells #[.int .i64 page] 3 (0, 0))
  out : ∃ dv, W.heap[db]? = some (.cells #[dv] 57 (0, 0)) ∧ UOwn W B ((done.filter fun k => (pg k).contains page).map K4.pc) dv
  pages : ∀ k ∈ l, IOwn W 0 (pg k) (.slice k.P k.pn k.pcap)
  len : done.length ≤ l.length
  low : B ≤ W.heap.size
theorem DropSt.ty {l : List K4} {pg : K4 → List Int} {page : Int} {gb db B : Nat} {done : List K4} {W : World} (h : DropSt l pg page gb db B done W) {b : Nat} (hb : DropS db W b) : ∃ cs t fz, W.heap[b]? = some (.cells cs t fz) ∧ (t = 57 ∨ t = 34) := by
  obtain ⟨dv, h1, h2⟩ := h.out
  rcases hb with rfl | ⟨v, hv, hg⟩
  · exact ⟨_, _, _, h1, .inl rfl⟩
  · rw [cell_atK h1 0] at hv
    injection hv with hv
    subst hv
    obtain ⟨cs, h3⟩ := h2.typed _ hg
    exact ⟨_, _, _, h3, .inr rfl⟩
theorem DropSt.quiet {l : List K4} {pg : K4 → List Int} {page : Int} {gb db B : Nat} {done : List K4} {W W' : World} (h : DropSt l pg page gb db B done W) (k : Keeps (fun _ => False) W W') : DropSt l pg page gb db B done W' := by
  obtain ⟨h1, ⟨dv, h2, h3⟩, h4, h5, h6⟩ := h
  exact ⟨(k.block gb (Array.getElem?_eq_some_iff.1 h1).1 (fun h => h)).trans h1, ⟨dv, (k.block db (Array.getElem?_eq_some_iff.1 h2).1 (fun h => h)).trans h2, h3.keep k (fun _ _ h => h)⟩, fun q hq => (h4 q hq).keep k (fun _ _ _ _ h => h), h5, Nat.le_trans h6 k.size⟩
set_option maxHeartbeats 4000000 in
set_option maxRecDepth 100000 in
theorem drop1_call (l : List K4) (pg : K4 → List Int) (page : Int) (gb db B : Nat) (done : List K4) (k : K4) (W : World) (hk : k ∈ l) (hl : done.length < l.length) (hll : l.length ≤ 100000) (h : DropSt l pg page gb db B done W) :
    Calls Tryz.prog 37 #[.agg (kC k), .pointer (some ⟨gb, 0, none⟩), .pointer (some ⟨db, 0, none⟩)] W fun e w' => e = .returned (.bool ((pg k).contains page)) ∧ DropSt l pg page gb db B (done ++ [k]) w' ∧ Keeps (DropS db W) W w' := by
  have HXB := Lib.hid (blk_alloc_new W (.cells #[.int .u32 k.pc, .int .i64 k.many, .slice k.A k.n k.c, .slice k.P k.pn k.pcap] 77))
  have HXK := Lib.hid ((Keeps.refl (fun _ => False) W).alloc (.cells #[.int .u32 k.pc, .int .i64 k.many, .slice k.A k.n k.c, .slice k.P k.pn k.pcap] 77))
  have HD0 := Lib.hid h
  have HTY := Lib.hid (fun b (hb : DropS db W b) => h.ty hb)
  have HLEN := Lib.hid hl
  have HKL := Lib.hid hk
  obtain ⟨q, hq⟩ : ∃ q, (pg k).contains page = q := ⟨_, rfl⟩
  rw [hq]
  have HQE := Lib.hid hq
  unfold kC
  clear h hl hk hq
  go_enter Tryz.func37, Tryz.ntmps37
  go_upto_region 1 with fail
  have HD1 := Lib.hid (HD0.out.quiet HXK.out)
  have HS1 := Lib.hid (show ∀ b, b < W.heap.size → DropS db (W.alloc (.cells #[.int .u32 k.pc, .int .i64 k.many, .slice k.A k.n k.c, .slice k.P k.pn k.pcap] 77)) b → DropS db W b from fun b hb h => by
    rcases h with h | ⟨v, hv, hg⟩
    · exact .inl h
    · obtain ⟨dv, h1, _⟩ := HD0.out.out
      have h2 := HXK.out.cell' (cell_atK h1 0) (fun h => h)
      rw [h2] at hv
      exact .inr ⟨v, by rw [cell_atK h1 0]; exact hv, hg⟩)
  generalize W.alloc _ = w1 at *
  obtain ⟨x, hx⟩ : ∃ x, W.heap.size = x := ⟨_, rfl⟩
  have HXL := Lib.hid (show ∀ b, b < W.heap.size → b < x from fun b hb => by rw [← hx]; exact hb)
  rw [hx] at HXB HS1 ⊢
  clear hx
  have x0 : w1.cell? ⟨x, 0, none⟩ = some (.int .u32 k.pc) := cell_atK HXB.out 0
  have x3 : w1.cell? ⟨x, 3, none⟩ = some (.slice k.P k.pn k.pcap) := cell_atK HXB.out 3
  have hpg : w1.cell? ⟨gb, 0, none⟩ = some (.int .i64 page) := cell_atK HD1.out.pgb 0
  obtain ⟨hn, hc, hr⟩ := (HD1.out.pages k HKL.out).reads
  have HCT := Lib.hid (contains_any k.P k.pn k.pcap (pg k) page w1 hr hn hc)
  rw [HQE.out] at HCT
  clear hr hn hc
  go_wp2_with fail
  refine HCT.out.mono ?_
  rintro e w2 ⟨rfl, rfl⟩
  cases q
  · have HF := Lib.hid (show DropSt l pg page gb db B (done ++ [k]) w2 from by
      obtain ⟨h1, h2, h3, h4, h5⟩ := HD1.out
      refine ⟨h1, ?_, h3, by rw [List.length_append, List.length_singleton]; have := HLEN.out; omega, h5⟩
      rw [List.filter_append, show [k].filter (fun k => (pg k).contains page) = [] by simp only [List.filter_cons, HQE.out]; rfl, List.append_nil]
      exact h2)
    go_wp2_with fail
    go_ret
    exact ⟨rfl, HF.out, HXK.out.mono (fun _ _ h => h.elim)⟩
  · obtain ⟨dv, hd1, hd2⟩ := HD1.out.out
    have hdv : w2.cell? ⟨db, 0, none⟩ = some dv := cell_atK hd1 0
    have hdf : w2.frozen? ⟨db, 0, none⟩ = false := frozen_of_block hd1 0
    have HU := Lib.hid hd2
    have HDB := Lib.hid hd1
    have HFL := Lib.hid (show ((done.filter fun k => (pg k).contains page).map K4.pc).length ≤ 1000000 by
      rw [List.length_map]
      have := List.length_filter_le (fun k => (pg k).contains page) done
      have := HLEN.out
      omega)
    have HKA := Lib.hid ((Keeps.refl (fun _ => False) w2).alloc (.cells #[.int .u32 k.pc] 34))
    have HCN := Lib.hid (fun j u hj => cells_new w2 [.int .u32 k.pc] 34 j u hj)
    have HLOW := Lib.hid HD1.out.low
    obtain ⟨ul, hul⟩ : ∃ x, (done.filter fun k => (pg k).contains page).map K4.pc = x := ⟨_, rfl⟩
    rw [hul] at HU HFL
    have HUL := Lib.hid hul
    have HUA := Lib.hid (HU.out.keep HKA.out (fun _ _ h => h))
    have HBS := Lib.hid (show B ≤ (w2.alloc (.cells #[.int .u32 k.pc] 34)).heap.size by rw [nblk_alloc]; have := HLOW.out; omega)
    clear hd1 hd2 hul
    obtain ⟨A5, c5, hv5, _⟩ := HU.out
    subst hv5
    obtain ⟨un, hun⟩ : ∃ x, ul.length = x := ⟨_, rfl⟩
    rw [hun] at hdv HUA HU HDB
    clear hun
    go_wp2_with (at_builtin; go_loud (refine wpList_append_u rfl _ _ rfl B ul (.slice A5 un c5) rfl HUA.out w2.heap.size k.pc rfl HCN.out HFL.out HBS.out ?c0))
    case c0 =>
      intro v' w3 hown hk3
      obtain ⟨A6, c6, hv6, _⟩ := id hown
      obtain ⟨u6, hu6⟩ : ∃ n, (ul ++ [k.pc]).length = n := ⟨_, rfl⟩
      rw [hu6] at hv6
      subst hv6
      clear hu6
      obtain ⟨v', hv'⟩ : ∃ v, Value.slice A6 u6 c6 = v := ⟨_, rfl⟩
      rw [hv'] at hown
      have hk23 : Keeps (DropS db w2) w2 w3 := (HKA.out.mono (T := DropS db w2) (fun _ _ h => h.elim)).trans (hk3.mono (T := DropS db w2) (fun b _ hb => .inr ⟨_, hdv, hb⟩)) (fun _ _ h => h)
      have hndb : ∀ b, (Value.slice A5 un c5).ownBlock = some b → b ≠ db := fun b hb e => by
        obtain ⟨cs, h1⟩ := HU.out.typed b hb
        rw [e, HDB.out] at h1
        injection h1 with h1
        injection h1 with _ h2 _
        exact keep_ne.2.2.2.2 h2
      have HDB3 := Lib.hid (show w3.heap[db]? = some (.cells #[.slice A5 un c5] 57 (0, 0)) from by
        have h1 := (HKA.out.block db (Array.getElem?_eq_some_iff.1 HDB.out).1 (fun h => h)).trans HDB.out
        exact (hk3.block db (Array.getElem?_eq_some_iff.1 h1).1 (fun h => hndb db h rfl)).trans h1)
      have HUV := Lib.hid (show UOwn (w3.setCell ⟨db, 0, none⟩ v') B (ul ++ [k.pc]) v' from hown.keep (Keeps.one w3 db 0 v') (fun g hg e => by
        have e : g = db := e
        obtain ⟨cs, h1⟩ := hown.typed g hg
        rw [e, HDB3.out] at h1
        injection h1 with h1
        injection h1 with _ h2 _
        exact keep_ne.2.2.2.2 h2))
      have HK4 := Lib.hid (show Keeps (DropS db w2) w2 (w3.setCell ⟨db, 0, none⟩ v') from hk23.trans ((Keeps.one w3 db 0 v').mono (T := DropS db w2) (fun b _ e => .inl e)) (fun _ _ h => h))
      have HDB4 := Lib.hid (show (w3.setCell ⟨db, 0, none⟩ v').heap[db]? = some (.cells #[v'] 57 (0, 0)) from by
        have := set_block HDB3.out 0 v'
        simpa using this)
      have HNT := Lib.hid (show ∀ b cs fz, w2.heap[b]? = some (.cells cs 3 fz) → ¬ DropS db w2 b from fun b cs fz hb hs => by
        obtain ⟨cs2, t, fz2, h1, h2⟩ := HD1.out.ty hs
        rw [hb] at h1
        injection h1 with h1
        injection h1 with _ e _
        rcases h2 with h2 | h2
        · exact keep_ne.1 (e.trans h2)
        · exact keep_ne.2.1 (e.trans h2))
      have HF := Lib.hid (show DropSt l pg page gb db B (done ++ [k]) (w3.setCell ⟨db, 0, none⟩ v') from by
        obtain ⟨h1, _, h3, h4, h5⟩ := HD1.out
        refine ⟨(HK4.out.block gb (Array.getElem?_eq_some_iff.1 h1).1 (HNT.out _ _ _ h1)).trans h1, ⟨v', HDB4.out, ?_⟩, fun q hq => (h3 q hq).keep HK4.out HNT.out, by rw [List.length_append, List.length_singleton]; have := HLEN.out; omega, Nat.le_trans h5 HK4.out.size⟩
        rw [List.filter_append, show [k].filter (fun k => (pg k).contains page) = [k] by simp only [List.filter_cons, HQE.out]; rfl, List.map_append, HUL.out]
        exact HUV.out)
      have HKF := Lib.hid (show Keeps (DropS db W) W (w3.setCell ⟨db, 0, none⟩ v') from (HXK.out.mono (T := DropS db W) (fun _ _ h => h.elim)).trans HK4.out (fun b hb h => HS1.out b (HXL.out b hb) h))
      have hdv3 : w3.cell? ⟨db, 0, none⟩ = some (.slice A5 un c5) := cell_atK HDB3.out 0
      have hdf3 : w3.frozen? ⟨db, 0, none⟩ = false := frozen_of_block HDB3.out 0
      rw [← hv'] at HF HKF
      clear HUV HK4 HDB4
      clear hown hk3 hk23 hndb hdv hdf x0 x3 hpg hv'
      go_wp2_with fail
      go_ret
      exact ⟨rfl, HF.out, HKF.out⟩
theorem drop1_pred (l : List K4) (pg : K4 → List Int) (page : Int) (gb db B : Nat) (hll : l.length ≤ 100000) : PredK 37 #[.pointer (some ⟨gb, 0, none⟩), .pointer (some ⟨db, 0, none⟩)] (fun k => (pg k).contains page) l (DropS db) (DropSt l pg page gb db B) where
  call := fun done k W hk hl h => drop1_call l pg page gb db B done k W hk hl hll h
  ty := fun done W b cs fz h hb hs => by
    obtain ⟨cs2, t, fz2, h1, h2⟩ := h.ty hs
    rw [hb] at h1
    injection h1 with h1
    injection h1 with _ e _
    rcases h2 with h2 | h2
    · exact keep_ne.2.2.1 (e.trans h2)
    · exact keep_ne.2.2.2.1 (e.trans h2)
  quiet := fun done W W' k h => h.quiet k
/-- Put's closure: the same place -/
theorem put1_pred (l : List K4) (pb : Nat) (pc many : Int) (A : Option Addr) (n cap : Nat) : PredK 30 #[.pointer (some ⟨pb, 0, none⟩)] (fun k => k.pc == pc) l (fun _ _ => False) (fun _ W => PlanBox W pb pc many A n cap) where
  call := fun done k W _ _ h => (put1_call k pb pc many A n cap W h).mono fun e w' hh => ⟨hh.1, h.keep hh.2 (fun h => h), hh.2⟩
  ty := fun _ _ _ _ _ _ _ h => h
  quiet := fun _ _ _ k h => h.keep k (fun h => h)
end Go.Proofs.YtlmnmncdoiealaaGreatDoor

/- OptRun -/
/- A code made better ends as it did: the plain law. -/
namespace Go.Proofs.YtlmnmncdoiealaaGreatDoor
open Go.RowKit
set_option linter.unusedVariables false
namespace Ir
theorem rg_setX {X : Nat → Int} {d v n : Int} (hd : 1 ≤ d) (hn : n ≠ d) : rg (setX X d v) n = rg X n := by
  unfold rg setX
  rw [if_neg (by omega)]
theorem rg_setX_same {X : Nat → Int} {d v : Int} : rg (setX X d v) d = v := by
  unfold rg setX
  rw [if_pos rfl]
theorem value_nodiv {c : Nat} {a b d e : Int} (h : isDiv c = false) : value c a b d = value c a b e := by
  unfold value
  rw [h]
  rfl
/-- facts that hold of registers -/
def FactsHold (f : Facts) (X : Nat → Int) : Prop := ∀ n v, fof f n = some v → rg X n = v
theorem doOp_sum {m : Nat → Int} {W : Int → Bool} {c : Mc} {o : Op} (h : 10 ≤ kn o.k) : doOp m W c o = some { c with X := setX c.X o.d (value (kn o.k) (rg c.X o.a) (rg c.X o.b) (rg c.X o.d)) } := by
  unfold doOp
  rw [if_neg (by omega), if_neg (by omega), if_neg (by omega), if_neg (by omega), if_neg (by omega)]
theorem doOp_fold (m : Nat → Int) (W : Int → Bool) (c : Mc) (f : Facts) (o : Op) (hf : FactsHold f c.X) : doOp m W c (foldOp f o) = doOp m W c o := by
  unfold foldOp
  split
  · rename_i h
    unfold foldable at h
    simp only [Bool.and_eq_true, Bool.not_eq_true'] at h
    obtain ⟨⟨⟨h1, h2⟩, h3⟩, h4⟩ := h
    have hk : 10 ≤ kn o.k := by unfold isSum at h1; simpa using h1
    obtain ⟨a, ha⟩ := Option.isSome_iff_exists.1 h3
    obtain ⟨b, hb⟩ := Option.isSome_iff_exists.1 h4
    rw [doOp_sum hk, ha, hb, hf _ _ ha, hf _ _ hb]
    unfold doOp
    rw [if_pos (show kn (setOp o.d _ o.at_).k = 1 from kn_set)]
    show some { c with X := setX c.X o.d (value (kn o.k) a b 0) } = _
    rw [value_nodiv h2]
  · split
    · rename_i h
      obtain ⟨h1, h2⟩ := h
      obtain ⟨a, ha⟩ := Option.isSome_iff_exists.1 h2
      rw [ha]
      unfold doOp
      rw [if_pos (show kn (setOp o.d _ o.at_).k = 1 from kn_set), if_neg (by omega), if_pos h1, hf _ _ ha]
      rfl
    · rfl
theorem foldOp_leaves (f : Facts) (o : Op) (h : leaves (kn o.k) = true) : foldOp f o = o := by
  rcases foldOp_or f o with h1 | ⟨h1, _⟩
  · exact h1
  · unfold leaves at h
    have h := of_decide_eq_true h
    omega
theorem foldOp_stays (f : Facts) (o : Op) (h : ¬ leaves (kn o.k) = true) : ¬ leaves (kn (foldOp f o).k) = true := by
  rcases foldOp_or f o with h1 | ⟨_, v, h1⟩
  · rw [h1]; exact h
  · rw [h1, show kn (setOp o.d v o.at_).k = 1 from kn_set]
    decide
theorem writes_foldOp (f : Facts) (o : Op) : writes (foldOp f o) = writes o := by
  rcases foldOp_or f o with h1 | ⟨hk, v, h1⟩
  · rw [h1]
  · rw [h1]
    unfold writes
    rw [show kn (setOp o.d v o.at_).k = 1 from kn_set]
    have : hasD (kn o.k) = true := by unfold hasD; simp; omega
    rw [this, decide_eq_true (show kn o.k ≠ 6 by omega)]
    rfl
/-- what an op that does not leave does to registers -/
theorem doOp_X {m : Nat → Int} {W : Int → Bool} {c c' : Mc} {o : Op} (hi : OpIn o) (hl : ¬ leaves (kn o.k) = true) (h : doOp m W c o = some c') :
    (writes o = 0 ∧ c'.X = c.X) ∨ (1 ≤ writes o ∧ ∃ v, c'.X = setX c.X (writes o) v ∧ (kn o.k = 1 → v = o.imm)) := by
  have hk := hi.k
  have hle := kn_le o.k
  have hn : ¬ (7 ≤ kn o.k ∧ kn o.k ≤ 9) := fun h' => hl (by unfold leaves; exact decide_eq_true h')
  have hw : (kn o.k = 1 ∨ kn o.k = 2 ∨ kn o.k = 5 ∨ 10 ≤ kn o.k) → writes o = o.d := fun hh => by
    unfold writes
    have : hasD (kn o.k) = true := by unfold hasD; simp; omega
    rw [this, decide_eq_true (show kn o.k ≠ 6 by omega)]
    rfl
  have hw0 : (kn o.k = 3 ∨ kn o.k = 4 ∨ kn o.k = 6) → writes o = 0 := fun hh => by
    unfold writes
    rcases hh with h | h | h <;> rw [h] <;> rfl
  unfold doOp at h
  split at h
  · rename_i h1
    cases h
    rw [hw (by omega)]
    exact .inr ⟨(hi.d (by omega)).1, _, rfl, fun _ => rfl⟩
  split at h
  · cases h
    rw [hw (by omega)]
    exact .inr ⟨(hi.d (by omega)).1, _, rfl, fun h => by omega⟩
  split at h
  · split at h
    · cases h
    · cases h
      exact .inl ⟨hw0 (by omega), rfl⟩
  split at h
  · split at h
    · cases h
      rw [hw (by omega)]
      exact .inr ⟨(hi.d (by omega)).1, _, rfl, fun h => by omega⟩
    · cases h
  split at h
  · split at h
    · cases h
      exact .inl ⟨hw0 (by omega), rfl⟩
    · cases h
  · cases h
    rw [hw (by omega)]
    exact .inr ⟨(hi.d (by omega)).1, _, rfl, fun h => by omega⟩
theorem learn_hold {m : Nat → Int} {W : Int → Bool} {c c' : Mc} {f : Facts} {o : Op} (hf : FactsHold f c.X) (hi : OpIn o) (hl : ¬ leaves (kn o.k) = true) (h : doOp m W c o = some c') : FactsHold (learn f (foldOp f o)) c'.X := by
  have hd := doOp_fold m W c f o hf
  intro n v hv
  unfold learn at hv
  rw [writes_foldOp] at hv
  rcases doOp_X hi hl h with ⟨h1, h2⟩ | ⟨h1, u, h2, h3⟩
  · rw [if_pos h1] at hv
    rw [h2]
    exact hf n v hv
  · rw [if_neg (by omega)] at hv
    by_cases hn0 : n = 0
    · subst hn0
      rw [h2, rg_setX h1 (by omega)]
      exact hf 0 v hv
    · unfold fof at hv
      rw [if_neg hn0] at hv
      dsimp only at hv
      by_cases hn : n = writes o
      · rw [if_pos hn] at hv
        split at hv
        · rename_i hk1
          injection hv with hv
          subst hv
          rw [h2, hn, rg_setX_same]
          rw [h] at hd
          unfold doOp at hd
          rw [if_pos hk1] at hd
          injection hd with hd
          have hX := congrArg Mc.X hd
          have hX := congrFun hX (writes o).toNat
          rw [h2] at hX
          have hwd : (foldOp f o).d = writes o := by
            rw [← writes_foldOp f o]
            unfold writes
            rw [hk1]
            rfl
          simp only [setX, hwd] at hX
          simpa using hX.symm
        · cases hv
      · rw [if_neg hn] at hv
        rw [h2, rg_setX h1 hn]
        exact hf n v (by unfold fof; rw [if_neg hn0]; exact hv)
theorem learn_leaves (f : Facts) (o : Op) (h : leaves (kn o.k) = true) : learn f o = f := by
  unfold learn
  have : writes o = 0 := by
    unfold leaves at h
    have h := of_decide_eq_true h
    unfold writes
    have : hasD (kn o.k) = false := by unfold hasD; simp; omega
    rw [this]
    rfl
  rw [if_pos this]
/-- FOLDED, A CODE GOES AS IT WENT -/
theorem fold_evGo (m : Nat → Int) (W : Int → Bool) : ∀ (l : List Op) (f : Facts) (c : Mc), FactsHold f c.X → (∀ o ∈ l, OpIn o) → evGo m W c (foldGo f l) = evGo m W c l
  | [], f, c, _, _ => rfl
  | o :: r, f, c, hf, hi => by
    have hir : ∀ o ∈ r, OpIn o := fun o ho => hi o (List.mem_cons_of_mem _ ho)
    have hio := hi o (List.mem_cons_self ..)
    unfold foldGo evGo
    by_cases hl : leaves (kn o.k) = true
    · rw [foldOp_leaves f o hl, if_pos hl, if_pos hl, learn_leaves f o hl, fold_evGo m W r f c hf hir]
    · rw [if_neg hl, if_neg (foldOp_stays f o hl), doOp_fold m W c f o hf, foldOp_at_]
      cases hd : doOp m W c o with
      | none => rfl
      | some c' => exact fold_evGo m W r _ c' (learn_hold hf hio hl hd) hir
/-- two machines that differ at one register at most -/
def Off (d : Int) (c c' : Mc) : Prop := c.ws = c'.ws ∧ ∀ k, k ≠ d.toNat → c.X k = c'.X k
/-- ends that are alike, as far as a state shows them -/
def Alike : Res → Res → Prop
  | .trap _, .trap _ => True
  | .leave p c, .leave q e => p = q ∧ c.ws = e.ws ∧ ∀ k, k < 34 → c.X k = e.X k
  | .fell _, .fell _ => True
  | _, _ => False
theorem Alike.refl (r : Res) : Alike r r := by
  cases r
  · trivial
  · exact ⟨rfl, rfl, fun _ _ => rfl⟩
  · trivial
theorem Alike.trans {a b c : Res} (h : Alike a b) (k : Alike b c) : Alike a c := by
  cases a <;> cases b <;> cases c <;> first | trivial | exact h.elim | exact k.elim | exact ⟨h.1.trans k.1, h.2.1.trans k.2.1, fun i hi => (h.2.2 i hi).trans (k.2.2 i hi)⟩
theorem off_rg {d n : Int} {c c' : Mc} (h : Off d c c') (hd : 1 ≤ d) (hn : n ≠ d) : rg c.X n = rg c'.X n := h.2 _ (by omega)
theorem Off.eq {d : Int} {c c' : Mc} (h : Off d c c') (hx : c.X d.toNat = c'.X d.toNat) : c = c' := by
  obtain ⟨X, ws⟩ := c
  obtain ⟨X', ws'⟩ := c'
  obtain ⟨h1, h2⟩ := h
  have hX : X = X' := funext fun k => by
    by_cases e : k = d.toNat
    · rw [e]; exact hx
    · exact h2 k e
  have h1 : ws = ws' := h1
  rw [hX, h1]
theorem reads_a {o : Op} {d : Int} (h : (reads o).contains d = false) (ha : hasA (kn o.k) = true) : o.a ≠ d := by
  intro e
  unfold reads at h
  rw [ha] at h
  simp [e] at h
theorem reads_b {o : Op} {d : Int} (h : (reads o).contains d = false) (hb : hasB (kn o.k) = true) (h5 : kn o.k ≠ 5) : o.b ≠ d := by
  intro e
  unfold reads at h
  rw [hb] at h
  simp [e, h5] at h
theorem reads_d {o : Op} {d : Int} (h : (reads o).contains d = false) (hq : isDiv (kn o.k) = true) : o.d ≠ d := by
  intro e
  unfold reads at h
  rw [hq] at h
  simp [e] at h
theorem off_set {d n v : Int} {c c' : Mc} (h : Off d c c') : Off d { c with X := setX c.X n v } { c' with X := setX c'.X n v } :=
  ⟨h.1, fun k hk => by
    show setX c.X n v k = setX c'.X n v k
    unfold setX
    split
    · rfl
    · exact h.2 k hk⟩
/-- an op that does not read d does alike where only d differs -/
theorem doOp_off {m : Nat → Int} {W : Int → Bool} {c c' : Mc} {o : Op} {d : Int} (h : Off d c c') (hd : 1 ≤ d) (hr : (reads o).contains d = false) (hk : kn o.k ≠ 0) (hl : ¬ leaves (kn o.k) = true) :
    (doOp m W c o = none ∧ doOp m W c' o = none) ∨ ∃ e e', doOp m W c o = some e ∧ doOp m W c' o = some e' ∧ Off d e e' ∧ (writes o = d → e = e') := by
  have hle := kn_le o.k
  have hn : ¬ (7 ≤ kn o.k ∧ kn o.k ≤ 9) := fun h' => hl (by unfold leaves; exact decide_eq_true h')
  have hA : 2 ≤ kn o.k → rg c.X o.a = rg c'.X o.a := fun h2 => off_rg h hd (reads_a hr (by unfold hasA; simp; omega))
  have hB : 3 ≤ kn o.k → kn o.k ≠ 5 → rg c.X o.b = rg c'.X o.b := fun h2 h5 => off_rg h hd (reads_b hr (by unfold hasB; simp; omega) h5)
  have hS : ∀ n v, (writes o = d → n = d) → (∃ e e', some ({ c with X := setX c.X n v } : Mc) = some e ∧ some ({ c' with X := setX c'.X n v } : Mc) = some e' ∧ Off d e e' ∧ (writes o = d → e = e')) := fun n v hw =>
    ⟨_, _, rfl, rfl, off_set h, fun e => (off_set h).eq (by
      rw [hw e]
      show setX c.X d v d.toNat = setX c'.X d v d.toNat
      unfold setX
      rw [if_pos rfl, if_pos rfl])⟩
  have hwd : (kn o.k = 1 ∨ kn o.k = 2 ∨ kn o.k = 5 ∨ 10 ≤ kn o.k) → writes o = o.d := fun hh => by
    unfold writes
    have : hasD (kn o.k) = true := by unfold hasD; simp; omega
    rw [this, decide_eq_true (show kn o.k ≠ 6 by omega)]
    rfl
  have hw0 : (kn o.k = 3 ∨ kn o.k = 4 ∨ kn o.k = 6) → writes o = 0 := fun hh => by
    unfold writes
    rcases hh with h | h | h <;> rw [h] <;> rfl
  rcases (show kn o.k = 1 ∨ kn o.k = 2 ∨ (kn o.k = 3 ∨ kn o.k = 4) ∨ kn o.k = 5 ∨ kn o.k = 6 ∨ 10 ≤ kn o.k by omega) with k | k | k | k | k | k
  · right
    have e1 : ∀ x : Mc, doOp m W x o = some { x with X := setX x.X o.d o.imm } := fun x => by unfold doOp; rw [if_pos k]
    rw [e1, e1]
    exact hS _ _ (fun e => by rw [← hwd (by omega)]; exact e)
  · right
    have e1 : ∀ x : Mc, doOp m W x o = some { x with X := setX x.X o.d (rg x.X o.a) } := fun x => by unfold doOp; rw [if_neg (by omega), if_pos k]
    rw [e1, e1, hA (by omega)]
    exact hS _ _ (fun e => by rw [← hwd (by omega)]; exact e)
  · have e1 : ∀ x : Mc, doOp m W x o = if overV (kn o.k) (rg x.X o.a) (rg x.X o.b) = true then none else some x := fun x => by unfold doOp; rw [if_neg (by omega), if_neg (by omega), if_pos k]
    rw [e1, e1, hA (by omega), hB (by omega) (by omega)]
    split
    · exact .inl ⟨rfl, rfl⟩
    · exact .inr ⟨_, _, rfl, rfl, h, fun e => by rw [hw0 (by omega)] at e; omega⟩
  · have e1 : ∀ x : Mc, doOp m W x o = if rightC (adr (rg x.X o.a) o.imm) o.b.natAbs = 0 then some { x with X := setX x.X o.d (loadV m x.ws (adr (rg x.X o.a) o.imm) o.b) } else none := fun x => by
      unfold doOp; rw [if_neg (by omega), if_neg (by omega), if_neg (by omega), if_pos k]
    rw [e1, e1, hA (by omega), h.1]
    split
    · right
      have hh := hS o.d (loadV m c'.ws (adr (rg c'.X o.a) o.imm) o.b) (fun e => by rw [← hwd (by omega)]; exact e)
      rw [h.1] at hh
      exact hh
    · exact .inl ⟨rfl, rfl⟩
  · have e1 : ∀ x : Mc, doOp m W x o = if rightC (adr (rg x.X o.a) o.imm) o.d = 0 ∧ W (adr (rg x.X o.a) o.imm / 256) = false then some { x with ws := x.ws ++ [⟨adr (rg x.X o.a) o.imm, o.d, rg x.X o.b⟩] } else none := fun x => by
      unfold doOp; rw [if_neg (by omega), if_neg (by omega), if_neg (by omega), if_neg (by omega), if_pos k]
    rw [e1, e1, hA (by omega), hB (by omega) (by omega), h.1]
    split
    · exact .inr ⟨_, _, rfl, rfl, ⟨rfl, h.2⟩, fun e => by rw [hw0 (by omega)] at e; omega⟩
    · exact .inl ⟨rfl, rfl⟩
  · right
    rw [doOp_sum k, doOp_sum k, hA (by omega), hB (by omega) (by omega)]
    have hv : value (kn o.k) (rg c'.X o.a) (rg c'.X o.b) (rg c.X o.d) = value (kn o.k) (rg c'.X o.a) (rg c'.X o.b) (rg c'.X o.d) := by
      by_cases hq : isDiv (kn o.k) = true
      · rw [off_rg h hd (reads_d hr hq)]
      · exact value_nodiv (by simpa using hq)
    rw [hv]
    exact hS _ _ (fun e => by rw [← hwd (by omega)]; exact e)
theorem deadGo_seen {d : Int} : ∀ (l : List Op), deadGo d l true = true → 33 < d
  | [], h => by simpa [deadGo] using h
  | x :: r, h => by
    unfold deadGo at h
    split at h
    · cases h
    split at h
    · simpa using h
    · exact deadGo_seen r (by simpa using h)
theorem writes_leaves {o : Op} (h : leaves (kn o.k) = true) : writes o = 0 := by
  unfold leaves at h
  have h := of_decide_eq_true h
  unfold writes
  have : hasD (kn o.k) = false := by unfold hasD; simp; omega
  rw [this]
  rfl
/-- where a register is dead, it makes no difference -/
theorem dead_alike (m : Nat → Int) (W : Int → Bool) (d : Int) (hd : 1 ≤ d) : ∀ (l : List Op) (seen : Bool) (c c' : Mc), Off d c c' → deadGo d l seen = true → (∀ o ∈ l, kn o.k ≠ 0) → (∀ i, i < l.length → isOut (kn (l.getD i nop).k) = true → l.length ≤ i + 1) →
    Alike (evGo m W c l) (evGo m W c' l)
  | [], seen, c, c', h, _, _, _ => trivial
  | o :: r, seen, c, c', h, hg, hk, ho => by
    have hko := hk o (List.mem_cons_self ..)
    have hkr : ∀ o ∈ r, kn o.k ≠ 0 := fun o ho => hk o (List.mem_cons_of_mem _ ho)
    have hor : ∀ i, i < r.length → isOut (kn (r.getD i nop).k) = true → r.length ≤ i + 1 := fun i hi hh => by
      have := ho (i + 1) (by simp; omega) (by simpa using hh)
      simp at this
      omega
    unfold deadGo at hg
    split at hg
    · cases hg
    rename_i hr
    have hr : (reads o).contains d = false := by simpa using hr
    unfold evGo
    by_cases hl : leaves (kn o.k) = true
    · rw [if_pos hl, if_pos hl]
      rw [if_neg (by rw [writes_leaves hl]; omega)] at hg
      have hl' := hl
      unfold leaves at hl'
      have hl' := of_decide_eq_true hl'
      have hgo : goesTo o (rg c.X o.a) = goesTo o (rg c'.X o.a) := by
        by_cases h8 : kn o.k = 8
        · unfold goesTo
          rw [if_neg (by omega), if_pos h8, if_neg (by omega), if_pos h8]
        · rw [off_rg h hd (reads_a hr (by unfold hasA; simp; omega))]
      have h33 : 33 < d ∨ kn o.k = 7 ∧ goesTo o (rg c'.X o.a) = none := by
        rcases (show kn o.k = 7 ∨ kn o.k = 8 ∨ kn o.k = 9 by omega) with k | k | k
        · left
          rw [k] at hg
          have hg2 : deadGo d r true = true := by simpa using hg
          exact deadGo_seen r hg2
        all_goals
          left
          have hlen := ho 0 (by simp) (by unfold isOut; simp [k])
          have hrn : r = [] := by
            simp at hlen
            exact hlen
          subst hrn
          simpa [deadGo] using hg
      rw [hgo]
      cases hgt : goesTo o (rg c'.X o.a) with
      | some pc =>
        rcases h33 with h33 | h33
        · exact ⟨rfl, h.1, fun k hk34 => h.2 k (by omega)⟩
        · rw [hgt] at h33
          cases h33.2
      | none => exact dead_alike m W d hd r _ c c' h hg hkr hor
    · rw [if_neg hl, if_neg hl]
      rcases doOp_off (m := m) (W := W) h hd hr hko hl with ⟨h1, h2⟩ | ⟨e, e', h1, h2, h3, h4⟩
      · rw [h1, h2]
        trivial
      · rw [h1, h2]
        dsimp only
        by_cases hw : writes o = d
        · rw [h4 hw]
          exact Alike.refl _
        · rw [if_neg hw] at hg
          exact dead_alike m W d hd r _ e e' h3 hg hkr hor
theorem fell_alike {m : Nat → Int} {W : Int → Bool} {c c' : Mc} {l l' : List Op} (h : evGo m W c l = evGo m W c' l') : Alike (evGo m W c l) (evGo m W c' l') := by
  rw [h]
  exact Alike.refl _
/-- A DEAD OP TAKEN OUT: the ends are alike -/
theorem erase_alike (m : Nat → Int) (W : Int → Bool) : ∀ (l : List Op) (i : Nat) (c : Mc), i < l.length → dead l i = true → (∀ o ∈ l, OpIn o) → (∀ j, j < l.length → isOut (kn (l.getD j nop).k) = true → l.length ≤ j + 1) →
    Alike (evGo m W c l) (evGo m W c (l.eraseIdx i))
  | [], i, c, h, _, _, _ => absurd h (Nat.not_lt_zero _)
  | o :: r, 0, c, _, hd, hi, ho => by
    have hio := hi o (List.mem_cons_self ..)
    have hir : ∀ o ∈ r, kn o.k ≠ 0 := fun o ho => (hi o (List.mem_cons_of_mem _ ho)).k
    have hor : ∀ i, i < r.length → isOut (kn (r.getD i nop).k) = true → r.length ≤ i + 1 := fun i hi hh => by
      have := ho (i + 1) (by simp; omega) (by simpa using hh)
      simp at this
      omega
    unfold dead at hd
    simp only [Bool.and_eq_true] at hd
    obtain ⟨h1, h2⟩ := hd
    have h1 : plainK (kn o.k) = true := h1
    have h2 : deadGo o.d r false = true := h2
    unfold plainK isSum at h1
    simp at h1
    have hl : ¬ leaves (kn o.k) = true := by unfold leaves; simp; omega
    have hd1 := (hio.d (by omega)).1
    rw [List.eraseIdx_cons_zero]
    conv => arg 1; unfold evGo
    rw [if_neg hl]
    have hdo : ∃ v, doOp m W c o = some { c with X := setX c.X o.d v } := by
      rcases h1 with (h1 | h1) | h1
      · exact ⟨_, by unfold doOp; rw [if_pos h1]⟩
      · exact ⟨_, by unfold doOp; rw [if_neg (by omega), if_pos h1]⟩
      · exact ⟨_, doOp_sum h1⟩
    obtain ⟨v, hv⟩ := hdo
    rw [hv]
    exact dead_alike m W o.d hd1 r false _ c ⟨rfl, fun k hk => by
      show setX c.X o.d v k = c.X k
      unfold setX
      rw [if_neg hk]⟩ h2 hir hor
  | o :: r, i + 1, c, h, hd, hi, ho => by
    have hir : ∀ o ∈ r, OpIn o := fun o ho => hi o (List.mem_cons_of_mem _ ho)
    have hor : ∀ i, i < r.length → isOut (kn (r.getD i nop).k) = true → r.length ≤ i + 1 := fun i hi hh => by
      have := ho (i + 1) (by simp; omega) (by simpa using hh)
      simp at this
      omega
    have hl' : i < r.length := by simpa using h
    have hd' : dead r i = true := by
      unfold dead at hd ⊢
      simpa using hd
    rw [List.eraseIdx_cons_succ]
    unfold evGo
    split
    · split
      · exact Alike.refl _
      · exact erase_alike m W r i c hl' hd' hir hor
    · split
      · trivial
      · exact erase_alike m W r i _ hl' hd' hir hor
theorem opIn_of_good {many : Int} {l : List Op} (h : Good many l) (himm : ∀ o ∈ l, 0 ≤ o.imm ∧ o.imm < 4294967296) : ∀ o ∈ l, OpIn o := fun o ho => by
  obtain ⟨i, hi, hio⟩ := List.getElem_of_mem ho
  have hio2 : l.getD i nop = o := by rw [List.getD_eq_getElem?_getD, List.getElem?_eq_getElem hi, hio]; rfl
  have h1 := (errAt_zero.1 (h.each i hi)).1
  rw [hio2] at h1
  exact opIn_of h1 (himm o ho)
theorem outs_of_good {many : Int} {l : List Op} (h : Good many l) : ∀ j, j < l.length → isOut (kn (l.getD j nop).k) = true → l.length ≤ j + 1 := fun j hj => (errAt_zero.1 (h.each j hj)).2.2
/-- SWEPT, A CODE ENDS ALIKE -/
theorem sweepGo_alike (many : Int) (m : Nat → Int) (W : Int → Bool) : ∀ (n : Nat) (l : List Op) (c : Mc), Good many l → (∀ o ∈ l, 0 ≤ o.imm ∧ o.imm < 4294967296) → Alike (evGo m W c l) (evGo m W c (sweepGo n l))
  | 0, l, c, _, _ => Alike.refl _
  | n + 1, l, c, hg, hm => by
    unfold sweepGo
    cases hf : firstDead l with
    | none => exact Alike.refl _
    | some i =>
      unfold firstDead at hf
      have hd := List.find?_some hf
      have hi := List.mem_range.1 (List.mem_of_find?_eq_some hf)
      have hd' : dead l i = true := hd
      have hp : plainK (kn (l.getD i nop).k) = true := by
        unfold dead at hd'
        simp only [Bool.and_eq_true] at hd'
        exact hd'.1
      exact (erase_alike m W l i c hi hd' (opIn_of_good hg hm) (outs_of_good hg)).trans (sweepGo_alike many m W n _ c (good_erase hg hi hp) (fun o ho => hm o (List.mem_of_mem_eraseIdx ho)))
/-- MADE BETTER, A CODE ENDS ALIKE -/
theorem opt_alike {many : Int} {l : List Op} (h : Good many l) (hm : ∀ o ∈ l, 0 ≤ o.imm ∧ o.imm < 4294967296) (hm2 : ∀ o ∈ fold l, 0 ≤ o.imm ∧ o.imm < 4294967296) (v : Int) (m : Nat → Int) (W : Int → Bool) (c : Mc) (h0 : c.X 0 = 0) : Alike (evGo m W c l) (evGo m W c (opt l v)) := by
  have hf : evGo m W c (fold l) = evGo m W c l := fold_evGo m W l none0 c (fun n x hx => by
    unfold fof none0 at hx
    split at hx
    · rename_i hn
      subst hn
      injection hx with hx
      rw [← hx]
      exact h0
    · cases hx) (opIn_of_good h hm)
  unfold opt
  split
  · exact Alike.refl _
  · split
    · rw [hf]; exact Alike.refl _
    · have := sweepGo_alike many m W (fold l).length (fold l) c (good_fold h) hm2
      rw [hf] at this
      exact this
end Ir
end Go.Proofs.YtlmnmncdoiealaaGreatDoor
