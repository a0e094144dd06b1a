import Derived.Test.YtknhfobcejpmeaaGreatDoorHrz05
import Derived.Test.YtknhfobcejpmeaaGreatDoorHrz09
import Derived.Test.YtknhfobcejpmeaaGreatDoorHrz14

/- OwnRows -/
/- Rows of ops of the call's own, rows within a row; the walk of the law's OwnRows. -/
namespace Go.Proofs.YtknhfobcejpmeaaGreatDoor
open Go.RowKit Go.Deep
set_option linter.unusedVariables false
set_option linter.unusedSimpArgs false

theorem Tryz.info_rowO : (Tryz.prog.info? 23).map (fun i => (i.zero, i.size, i.bytes)) = some (some (.slice none 0 0), 1, 24) := by kernel_rfl
theorem OpsOwn.keepS {S : Nat → Prop} {w w' : World} {B : Nat} {l : List Ir.Op} {v : Value} (h : OpsOwn w B l v) (k : Keeps S w w') (hs : ∀ g, v.ownBlock = some g → ¬ S g) : OpsOwn w' B l v := by
  obtain ⟨A, cap, rfl, ho⟩ := h
  exact ⟨A, cap, rfl, owns_keep ho k hs⟩
theorem OpsOwn.base {w : World} {B B' : Nat} {l : List Ir.Op} {v : Value} (h : OpsOwn w B l v) (hb : B' ≤ B) : OpsOwn w B' l v := by
  obtain ⟨A, cap, rfl, h1, h2⟩ := h
  refine ⟨A, cap, rfl, h1, ?_⟩
  rcases h2 with h | ⟨g, cap, cur, h1, h2, h3⟩
  · exact .inl h
  · exact .inr ⟨g, cap, cur, h1, Nat.le_trans hb h2, h3⟩
/-- a row's block bears its element's type -/
theorem owns_typed {w : World} {B : Nat} {e : TypeId} {size : Nat} {v : Value} {n : Nat} {xs : List Value} (h : w.ownsRow B e size v n xs) {g : Nat} (hg : v.ownBlock = some g) : ∃ cur, w.heap[g]? = some (.cells cur e (0, 0)) := by
  obtain ⟨_, ⟨h4, _⟩ | ⟨g2, cap, cur, h4, h5, h6, _⟩⟩ := h
  · rw [h4] at hg; cases hg
  · rw [h4] at hg
    injection hg with hg
    subst hg
    exact ⟨cur, h6⟩
theorem owns_apart {w : World} {B C : Nat} {e f : TypeId} {s1 s2 : Nat} {v u : Value} {n m : Nat} {xs ys : List Value} (h : w.ownsRow B e s1 v n xs) (k : w.ownsRow C f s2 u m ys) (hne : e ≠ f) : ∀ g, v.ownBlock = some g → ¬ u.ownBlock = some g := fun g h1 h2 => by
  obtain ⟨c1, e1⟩ := owns_typed h h1
  obtain ⟨c2, e2⟩ := owns_typed k h2
  rw [e1] at e2
  injection e2 with e2
  injection e2 with _ e2
  exact hne e2
/-- rows of ops, each of the call's own -/
def RowsOwn (w : World) (B : Nat) (v : Value) (rows : List (List Ir.Op)) : Prop :=
  ∃ vs : List Value, vs.length = rows.length ∧ w.ownsRow B 23 1 v rows.length vs ∧ ∀ j, j < rows.length → OpsOwn w B (rows.getD j []) (vs.getD j (.slice none 0 0))
theorem RowsOwn.quiet {w w' : World} {B : Nat} {v : Value} {rows : List (List Ir.Op)} (h : RowsOwn w B v rows) (k : Keeps (fun _ => False) w w') : RowsOwn w' B v rows := by
  obtain ⟨vs, h1, h2, h3⟩ := h
  exact ⟨vs, h1, owns_keep h2 k (fun _ _ h => h), fun j hj => (h3 j hj).keepS k (fun _ _ h => h)⟩
theorem RowsOwn.nil (w : World) (B : Nat) : RowsOwn w B (.slice none 0 0) [] := ⟨[], rfl, World.ownsRow_nil _ _ _ _, fun j hj => absurd hj (by simp)⟩
theorem op_ne_row : 100 ≠ 23 := by decide
/-- one more -/
theorem RowsOwn.step {w2 w3 : World} {B : Nat} {v v' u : Value} {rows : List (List Ir.Op)} {l : List Ir.Op} {vs : List Value} (h1 : vs.length = rows.length) (h2 : w2.ownsRow B 23 1 v rows.length vs) (h3 : ∀ j, j < rows.length → OpsOwn w2 B (rows.getD j []) (vs.getD j (.slice none 0 0)))
    (hg : OpsOwn w2 B l u) (hk : Keeps (fun k => v.ownBlock = some k) w2 w3) (hown : w3.ownsRow B 23 1 v' (rows.length + 1) (vs ++ [u])) : RowsOwn w3 B v' (rows ++ [l]) := by
  have hkeep : ∀ l u, OpsOwn w2 B l u → OpsOwn w3 B l u := fun l u h => by
    obtain ⟨A, cap, rfl, ho⟩ := h
    exact ⟨A, cap, rfl, owns_keep ho hk (owns_apart ho h2 op_ne_row)⟩
  refine ⟨vs ++ [u], by simp [h1], ?_, fun j hj => ?_⟩
  · rw [List.length_append, List.length_singleton]
    exact hown
  · rw [List.length_append, List.length_singleton] at hj
    by_cases e : j < rows.length
    · have a1 : (vs ++ [u]).getD j (.slice none 0 0) = vs.getD j (.slice none 0 0) := by simp [List.getD_eq_getElem?_getD, List.getElem?_append_left (show j < vs.length by omega)]
      have a2 : (rows ++ [l]).getD j [] = rows.getD j [] := by simp [List.getD_eq_getElem?_getD, List.getElem?_append_left e]
      rw [a1, a2]
      exact hkeep _ _ (h3 j e)
    · obtain rfl : j = rows.length := by omega
      have a1 : (vs ++ [u]).getD rows.length (.slice none 0 0) = u := by rw [← h1]; simp [List.getD_eq_getElem?_getD]
      have a2 : (rows ++ [l]).getD rows.length [] = l := by simp [List.getD_eq_getElem?_getD]
      rw [a1, a2]
      exact hkeep _ _ hg
theorem owns_cell {w : World} {B : Nat} {e : TypeId} {v : Value} {n : Nat} {xs : List Value} (h : w.ownsRow B e 1 v n xs) {g : Nat} (hg : v.ownBlock = some g) {i : Nat} (hi : i < n) (d : Value) : w.cell? ⟨g, i, none⟩ = some (xs.getD i d) := by
  have hl := h.1
  have := h.cells hg i (xs.getD i d) (by rw [List.getD_eq_getElem?_getD, List.getElem?_eq_getElem (by omega)]; rfl)
  rw [Addr.add_lit] at this
  simpa using this
theorem RowsOwn.rows {w : World} {B : Nat} {v : Value} {rows : List (List Ir.Op)} (h : RowsOwn w B v rows) : ∃ A cap, v = .slice A rows.length cap ∧ cap ≤ 9223372036854775807 ∧ RowsAt w A rows.length cap rows := by
  obtain ⟨vs, h1, h2, h3⟩ := h
  obtain ⟨A, cap, rfl⟩ := owns_slice h2
  refine ⟨A, cap, rfl, owns_cap h2, ?_⟩
  have h2' := h2
  obtain ⟨hlen, ⟨h4, h5⟩ | ⟨g, cap', cur, h4, h5, h6, h7, h8, h9, h10⟩⟩ := h2
  · injection h4 with e1 e2 e3
    exact ⟨rfl, by omega, .inl e3⟩
  · injection h4 with e1 e2 e3
    subst e1 e3
    refine ⟨rfl, h7, .inr ⟨g, 0, rfl, (Array.getElem?_eq_some_iff.1 h6).1, fun i hi => ?_⟩⟩
    obtain ⟨Ai, ci, e1, e2⟩ := (h3 i hi)
    have hc := owns_cell h2' (g := g) rfl hi (.slice none 0 0)
    rw [e1] at hc e2
    rw [Nat.zero_add]
    exact ⟨Ai, ci, hc, OpsAt.of_owns e2 rfl, owns_cap e2⟩
set_option maxHeartbeats 4000000 in
set_option maxRecDepth 100000 in
theorem ownRows_any (A : Option Addr) (n cap : Nat) (rows : List (List Ir.Op)) (w : World) (V : RowsAt w A n cap rows) (hc : cap ≤ 9223372036854775807) (hn : n < 1000000) (hr : ∀ i, i < n → (rows.getD i []).length < 1000000) :
    Calls Tryz.prog 20 #[.slice A n cap] w fun e w' => ∃ v, e = .returned v ∧ RowsOwn w' w.heap.size v rows ∧ Keeps (fun _ => False) w w' := by
  obtain ⟨i0, hinf, hz0, hz1, hz2⟩ := info_parts Tryz.info_rowO
  have HV := Lib.hid V
  have HL := Lib.hid V.len
  have HR := Lib.hid hr
  have hnc := V.le
  have HK0 := Lib.hid (Keeps.refl (fun _ => False) w)
  obtain ⟨B, hB⟩ : ∃ B, w.heap.size = B := ⟨_, rfl⟩
  rw [hB]
  have HBE := Lib.hid hB
  clear V hB hr
  go_enter Tryz.func20, Tryz.ntmps20
  go_wp2_with fail
  go_loopw [3, 4] (fun s1 s2 wr => ∃ i : Nat, i ≤ n ∧ s2 = .int .i64 i ∧ RowsOwn wr B s1 (rows.take i) ∧ Keeps (fun _ => False) w wr) (fun _ s2 _ => n - (intOf s2).toNat)
  case atStart => exact ⟨0, by omega, rfl, by rw [List.take_zero]; exact RowsOwn.nil _ _, HK0.out⟩
  case round =>
    obtain ⟨i, hi, rfl, hE, hK⟩ := hrel
    have HE := Lib.hid hE
    have HK := Lib.hid hK
    clear hE hK
    by_cases hlt : i < n
    · obtain ⟨ob, oo, Ai, ci, rfl, e0, e1, e2⟩ := (HV.out.quiet HK.out).get hlt
      have hil : i < rows.length := by rw [HL.out]; exact hlt
      have HTS := Lib.hid (show rows.take (i + 1) = rows.take i ++ [rows.getD i []] by
        rw [List.take_succ_eq_append_getElem hil]
        simp [List.getD, hil])
      have hlen : (rows.take i).length = i := by rw [List.length_take, Nat.min_eq_left (Nat.le_of_lt hil)]
      have hri := HR.out i hlt
      obtain ⟨l, hl⟩ : ∃ l, rows.getD i [] = l := ⟨_, rfl⟩
      rw [hl] at e0 e1 HTS hri
      clear hl
      have HOO := Lib.hid (fun w V => ownOps_any Ai l.length ci l w V hri)
      have HE1 := Lib.hid e1
      have hi63 : (i : Int) < n := by omega
      clear e1 e2
      go_wp2_with fail
      refine (HOO.out _ HE1.out).mono ?_
      rintro e w2 ⟨u, rfl, hu, hk2⟩
      obtain ⟨Au, cu, hue, _⟩ := id hu
      obtain ⟨ul, hul⟩ : ∃ n, l.length = n := ⟨_, rfl⟩
      rw [hul] at hue
      subst hue
      have HUL := Lib.hid hul
      clear hul
      have HU := Lib.hid (hu.base (B' := B) (by rw [← HBE.out]; exact HK.out.size))
      have HK2 := Lib.hid (HK.out.trans hk2 (fun _ _ h => h))
      have HE2 := Lib.hid (HE.out.quiet hk2)
      clear hu hk2 e0 HE
      obtain ⟨vs, hg1, hg2, hg3⟩ := HE2.out
      rw [hlen] at hg2
      obtain ⟨A1, cap1, rfl⟩ := owns_slice hg2
      have HG3 := Lib.hid (show ∀ j, j < (rows.take i).length → OpsOwn (w2.alloc (.cells #[.slice Au ul cu] 23)) B ((rows.take i).getD j []) (vs.getD j (.slice none 0 0)) from fun j hj => (hg3 j hj).keepS ((Keeps.refl (fun _ => False) w2).alloc _) (fun _ _ h => h))
      have HG1 := Lib.hid hg1
      have HQ := Lib.hid (show (w2.alloc (.cells #[.slice Au ul cu] 23)).ownsRow B 23 1 (.slice A1 i cap1) i vs from hg2.alloc _)
      have HUU := Lib.hid (show OpsOwn (w2.alloc (.cells #[.slice Au ul cu] 23)) B l (.slice Au ul cu) from HU.out.keepS ((Keeps.refl (fun _ => False) w2).alloc _) (fun _ _ h => h))
      have HCN := Lib.hid (fun j x hj => cells_new w2 [.slice Au ul cu] 23 j x hj)
      have HONE : Hid (∀ x ∈ [Value.slice Au ul cu], x.oneCell' = true) := Lib.hid (by
        intro x hx
        simp only [List.mem_cons, List.not_mem_nil, or_false] at hx
        rw [hx]
        rfl)
      have HBS := Lib.hid (show B ≤ (w2.alloc (.cells #[.slice Au ul cu] 23)).heap.size by
        rw [nblk_alloc]
        have := HK2.out.size
        have := HBE.out
        omega)
      have hmx : i + 1 ≤ maxLen := by unfold maxLen; omega
      have HLL := Lib.hid (show vs.length = i * 1 by rw [hg1, hlen, Nat.mul_one])
      have HLN := Lib.hid hlen
      clear hg1 hg2 hg3 HE2 hlen
      go_wp2_with (at_builtin; go_loud (refine wpList_append_own _ rfl _ _ 33 rfl B 23 i0 _ 1 24 Tryz.underlying33 hinf hz0 hz1 hz2 rfl (by decide) (.slice A1 i cap1) i vs rfl HQ.out ⟨w2.heap.size, 0, none⟩ 1 1 [.slice Au ul cu] rfl rfl HCN.out HONE.out hmx (by omega) HBS.out ?c0))
      case c0 =>
        intro v' w3 hown hgrow hnil
        obtain ⟨A2, cap2, rfl⟩ := owns_slice hown
        have hk23 : Keeps (fun k => (Value.slice A1 i cap1).ownBlock = some k) (w2.alloc (.cells #[.slice Au ul cu] 23)) w3 := (Keeps.refl _ _).grown hgrow (fun g hg _ => hg)
        have HE3 := Lib.hid (show RowsOwn w3 B (.slice A2 (i + 1) cap2) (rows.take (i + 1)) from by
          rw [HTS.out]
          refine RowsOwn.step HG1.out (v := .slice A1 i cap1) ?_ HG3.out HUU.out hk23 ?_
          · rw [HLN.out]; exact HQ.out
          · rw [HLN.out]; exact hown)
        have hlq := HQ.out.lt
        have HK3 := Lib.hid (show Keeps (fun _ => False) w w3 from (HK2.out.alloc (.cells #[.slice Au ul cu] 23)).trans hk23 (fun b hb h => by
          have := (hlq b h).1
          have := HBE.out
          omega))
        clear hown hgrow hnil hk23 hlq
        go_wp2_with fail
        go_roundw
        case rel => exact ⟨i + 1, by omega, by go_num, HE3.out, HK3.out⟩
        case measure => simp [intOf]; omega
    · obtain rfl : i = n := by omega
      have HEE := Lib.hid (show RowsOwn wr B _ rows from by
        have := HE.out
        rwa [List.take_of_length_le (by rw [HL.out]; exact Nat.le_refl _)] at this)
      go_wp2_with fail
      go_ret
      exact ⟨_, rfl, HEE.out, HK.out⟩
end Go.Proofs.YtknhfobcejpmeaaGreatDoor

/- HostDefs -/
/- A host's results as they lie. -/
namespace Go.Proofs.YtknhfobcejpmeaaGreatDoor
open Go.RowKit Go.Deep
set_option linter.unusedVariables false
set_option linter.unusedSimpArgs false

namespace Ir
/-- what a host reads for an op -/
def hv (X m : Nat → Int) (o : Op) : Int :=
  if kn o.k = 1 then o.imm else if kn o.k = 3 ∨ kn o.k = 4 then 0
  else if kn o.k = 5 then (if rightC (adr (rg X o.a) o.imm) o.b.natAbs = 0 then Wd.wide (be m (adr (rg X o.a) o.imm).toNat o.b.natAbs) (8 * o.b.natAbs) (decide (o.b < 0)) else 0)
  else if kn o.k = 6 then rg X o.b else if 10 ≤ kn o.k then value (kn o.k) (rg X o.a) (rg X o.b) (rg X o.d) else rg X o.a
def ha (X : Nat → Int) (o : Op) : Int := if kn o.k = 6 then adr (rg X o.a) o.imm else 0
end Ir
/-- a host's result -/
def hresC (o : Ir.Op) (v a : Int) : Array Value := #[.string o.k, .int .i64 o.d, .int .i64 o.a, .int .i64 o.b, .int .u32 o.imm, .int .i64 o.at_, .int .u32 v, .int .u32 a]
theorem cell_ltH {w : World} {b o : Nat} {v : Value} (h : w.cell? ⟨b, o, none⟩ = some v) : b < w.heap.size := by
  unfold World.cell? at h
  cases hb : w.heap[b]? with
  | none => rw [hb] at h; cases h
  | some x => exact (Array.getElem?_eq_some_iff.1 hb).1
theorem size_hres : (Tryz.prog.info? 176).map (·.size) = some 8 := by kernel_rfl
structure HBox (w : World) (x : Nat) (o : Ir.Op) (v a : Int) : Prop where
  blk : w.heap[x]? = some (.cells (hresC o v a) 176 (0, 0))
theorem HBox.lt {w : World} {x : Nat} {o : Ir.Op} {v a : Int} (h : HBox w x o v a) : x < w.heap.size := (Array.getElem?_eq_some_iff.1 h.blk).1
theorem HBox.keep {S : Nat → Prop} {w w' : World} {x : Nat} {o : Ir.Op} {v a : Int} (h : HBox w x o v a) (k : Keeps S w w') (hs : ¬ S x) : HBox w' x o v a := ⟨(k.block x h.lt hs).trans h.blk⟩
theorem HBox.cells {w : World} {x : Nat} {o : Ir.Op} {v a : Int} (h : HBox w x o v a) :
    (w.cell? ⟨x, 0, none⟩ = some (.string o.k) ∧ w.cell? ⟨x, 1, none⟩ = some (.int .i64 o.d) ∧ w.cell? ⟨x, 2, none⟩ = some (.int .i64 o.a) ∧ w.cell? ⟨x, 3, none⟩ = some (.int .i64 o.b) ∧
     w.cell? ⟨x, 4, none⟩ = some (.int .u32 o.imm) ∧ w.cell? ⟨x, 5, none⟩ = some (.int .i64 o.at_) ∧ w.cell? ⟨x, 6, none⟩ = some (.int .u32 v) ∧ w.cell? ⟨x, 7, none⟩ = some (.int .u32 a)) ∧ ∀ i, w.frozen? ⟨x, i, none⟩ = false := by
  refine ⟨⟨?_, ?_, ?_, ?_, ?_, ?_, ?_, ?_⟩, fun i => frozen_of_block h.blk i⟩ <;> (unfold World.cell?; rw [h.blk]; rfl)
theorem HBox.new (w : World) (o : Ir.Op) (v a : Int) : HBox (w.alloc (.cells (hresC o v a) 176)) w.heap.size o v a := ⟨blk_alloc_new _ _⟩
theorem HBox.putV {w : World} {x : Nat} {o : Ir.Op} {v a : Int} (h : HBox w x o v a) (v' : Int) : HBox (w.setCell ⟨x, 6, none⟩ (.int .u32 v')) x o v' a ∧ Keeps (· = x) w (w.setCell ⟨x, 6, none⟩ (.int .u32 v')) := by
  refine ⟨⟨?_⟩, Keeps.one _ _ _ _⟩
  have h1 := set_block h.blk 6 (.int .u32 v')
  simpa [hresC] using h1
theorem HBox.putA {w : World} {x : Nat} {o : Ir.Op} {v a : Int} (h : HBox w x o v a) (a' : Int) : HBox (w.setCell ⟨x, 7, none⟩ (.int .u32 a')) x o v a' ∧ Keeps (· = x) w (w.setCell ⟨x, 7, none⟩ (.int .u32 a')) := by
  refine ⟨⟨?_⟩, Keeps.one _ _ _ _⟩
  have h1 := set_block h.blk 7 (.int .u32 a')
  simpa [hresC] using h1
def hput (w : World) (x : Nat) (o : Ir.Op) (v a : Int) : World :=
  (((((((w.setCell ⟨x, 0, none⟩ (.string o.k)).setCell ⟨x, 1, none⟩ (.int .i64 o.d)).setCell ⟨x, 2, none⟩ (.int .i64 o.a)).setCell ⟨x, 3, none⟩ (.int .i64 o.b)).setCell ⟨x, 4, none⟩ (.int .u32 o.imm)).setCell ⟨x, 5, none⟩ (.int .i64 o.at_)).setCell ⟨x, 6, none⟩ (.int .u32 v)).setCell ⟨x, 7, none⟩ (.int .u32 a)
theorem HBox.put {w : World} {x : Nat} {o o' : Ir.Op} {v a v' a' : Int} (h : HBox w x o v a) : HBox (hput w x o' v' a') x o' v' a' ∧ Keeps (· = x) w (hput w x o' v' a') := by
  unfold hput
  refine ⟨⟨?_⟩, ?_⟩
  · have h1 := set_block (set_block (set_block (set_block (set_block (set_block (set_block (set_block h.blk 0 (.string o'.k)) 1 (.int .i64 o'.d)) 2 (.int .i64 o'.a)) 3 (.int .i64 o'.b)) 4 (.int .u32 o'.imm)) 5 (.int .i64 o'.at_)) 6 (.int .u32 v')) 7 (.int .u32 a')
    simpa [hresC] using h1
  · exact Keeps.trans (Keeps.trans (Keeps.trans (Keeps.trans (Keeps.trans (Keeps.trans (Keeps.trans (Keeps.one _ _ _ _) (Keeps.one _ _ _ _) (fun _ _ h => h)) (Keeps.one _ _ _ _) (fun _ _ h => h)) (Keeps.one _ _ _ _) (fun _ _ h => h)) (Keeps.one _ _ _ _) (fun _ _ h => h)) (Keeps.one _ _ _ _) (fun _ _ h => h)) (Keeps.one _ _ _ _) (fun _ _ h => h)) (Keeps.one _ _ _ _) (fun _ _ h => h)
theorem results_hres {fn : Func} {p u : Tmp} (h : fn.results = #[.cell p 176, .tmp u]) (tmps : Array Value) (w : World) (g : Nat) (o : Ir.Op) (v a : Int) (hp : tmps.getD p undef = .pointer (some ⟨g, 0, none⟩)) (hg : HBox w g o v a) :
    (results fn tmps).run Tryz.prog w = .ok (.tuple #[.agg (hresC o v a), tmps.getD u undef]) w := by
  rw [results_cell_tmp h, hp]
  have := run_loadVar_row (P := Tryz.prog) w g 176 176 (hresC o v a) (0, 0) _ hg.blk Tryz.underlying176 rfl size_hres
  simp [asAddr, this]
/-- the two boxes that read begins with -/
structure ReadBox (w wr : World) (x y : Nat) (o : Ir.Op) : Prop where
  op : OpAt wr x o
  res : HBox wr y ⟨⟨#[]⟩, 0, 0, 0, 0, 0⟩ 0 0
  k : Keeps (fun _ => False) w wr
  low : w.heap.size ≤ y
  ne : x ≠ y
theorem ReadBox.new (w : World) (k : ByteArray) (d a b im t : Int) (T : TypeId) :
    ReadBox w ((w.alloc (.cells #[.string k, .int .i64 d, .int .i64 a, .int .i64 b, .int .u32 im, .int .i64 t] T)).alloc (.cells #[.string ⟨#[]⟩, .int .i64 0, .int .i64 0, .int .i64 0, .int .u32 0, .int .i64 0, .int .u32 0, .int .u32 0] 176)) w.heap.size (w.heap.size + 1) ⟨k, d, a, b, im, t⟩ := by
  obtain ⟨h1, h1k⟩ := op_new w k d a b im t T
  have h2 := HBox.new (w.alloc (.cells #[.string k, .int .i64 d, .int .i64 a, .int .i64 b, .int .u32 im, .int .i64 t] T)) ⟨⟨#[]⟩, 0, 0, 0, 0, 0⟩ 0 0
  rw [nblk_alloc] at h2
  exact ⟨h1.keep ((Keeps.refl (fun _ => False) _).alloc _) (fun h => h), h2, h1k.alloc _, by omega, by omega⟩
theorem ReadBox.keep {w wr w' : World} {x y : Nat} {o : Ir.Op} (h : ReadBox w wr x y o) (k : Keeps (fun _ => False) wr w') : ReadBox w w' x y o :=
  ⟨h.op.keep k (fun h => h), h.res.keep k (fun h => h), h.k.trans k (fun _ _ h => h), h.low, h.ne⟩
/-- a machine stays where only what came later changes -/
theorem MachAt.keepZ {S : Nat → Prop} {w w' : World} {B mb rp : Nat} {c : Ir.Mc} (h : MachAt w B mb rp c) (k : Keeps S w w') (hs : ∀ b, b < w.heap.size → ¬ S b) : MachAt w' B mb rp c := by
  obtain ⟨⟨v, h1, h2, h3⟩, h4⟩ := h
  refine ⟨⟨v, keeps_rowIs k h1 (hs _ (rowIs_lt h1)), owns_keep h2 k (fun g hg => ?_), h3⟩, h4⟩
  obtain ⟨_, ⟨h5, _⟩ | ⟨g2, cap, cur, h5, h6, h7, _⟩⟩ := h2
  · rw [h5] at hg; cases hg
  · rw [h5] at hg
    injection hg with hg
    subst hg
    exact hs _ (Array.getElem?_eq_some_iff.1 h7).1
/-- what read answers -/
def ReadIs (w : World) (X m : Nat → Int) (W : Int → Bool) (o : Ir.Op) (e : Ending) (w' : World) : Prop :=
  e = .returned (.tuple #[.agg (hresC o (Ir.hv X m o) (Ir.ha X o)), .bool (!(Ir.resOf X m W o).trap)]) ∧ Keeps (fun _ => False) w w'
theorem ReadIs.of {w w5 : World} {X m : Nat → Int} {W : Int → Bool} {o : Ir.Op} {y : Nat} {v a : Int} {t : Bool} (hv : Ir.hv X m o = v) (ha : Ir.ha X o = a) (ht : (Ir.resOf X m W o).trap = !t) (H : Keeps (fun _ => False) w w5) (hy : w.heap.size ≤ y) {w6 : World} (k : Keeps (· = y) w5 w6) :
    ReadIs w X m W o (.returned (.tuple #[.agg (hresC o v a), .bool t])) w6 := by
  subst hv ha
  refine ⟨by rw [ht, Bool.not_not], H.trans k (fun b hb e => by have e : b = y := e; omega)⟩
end Go.Proofs.YtknhfobcejpmeaaGreatDoor

/- HostRead0 -/
/- The walk of host.read. Printed by gen/hostread.py. -/
namespace Go.Proofs.YtknhfobcejpmeaaGreatDoor
open Go.RowKit Go.Deep
set_option linter.unusedVariables false
set_option linter.unusedSimpArgs false

set_option maxHeartbeats 8000000 in
set_option maxRecDepth 100000 in
theorem read_set (B mb r pb pw ph cp : Nat) (c : Ir.Mc) (m : Nat → Int) (W : Int → Bool) (k : ByteArray) (d a b im t : Int) (w : World) (ea : Nat → Addr) (E : Errs3 w ea) (M : MachAt w B mb r c) (R : RamAt w r pb pw ph cp m) (hW : WatchAt w pw W)
    (hok : Ir.McOk W c) (hi : Ir.OpIn ⟨k, d, a, b, im, t⟩) (hk : Ir.kn k = 1) (hB : B ≤ w.heap.size) :
    Calls Tryz.prog 97 #[.pointer (some ⟨mb, 0, none⟩), .agg #[.string k, .int .i64 d, .int .i64 a, .int .i64 b, .int .u32 im, .int .i64 t]] w (ReadIs w c.X (Ir.pend m c.ws) W ⟨k, d, a, b, im, t⟩) := by
  obtain ⟨_, hid, hia, hib, hil, his, him⟩ := hi
  simp only at hid hia hib hil his him
  obtain ⟨ka, rfl⟩ := Int.eq_ofNat_of_zero_le hia.1
  have hka : ka < 64 := by omega
  have hza : (ka : Int) < 64 := by omega
  obtain ⟨kb, rfl⟩ := Int.eq_ofNat_of_zero_le (hib (by omega)).1
  have hkb : kb < 64 := by have := hib (by omega); omega
  have hzb : (kb : Int) < 64 := by omega
  have HK := Ir.kinds k 1 hk
  simp only [Nat.reduceBEq] at HK
  obtain ⟨k1, k2, k3, k4, k5, k6, k7, k8, k9, _⟩ := HK
  have k5n : (k.toList != [108, 111, 97, 100]) = true := by rw [bne, k5]; rfl
  have HPL := Lib.hid (show Ir.hv c.X (Ir.pend m c.ws) ⟨k, d, (ka : Int), (kb : Int), im, t⟩ = im ∧ Ir.ha c.X ⟨k, d, (ka : Int), (kb : Int), im, t⟩ = 0 ∧ (Ir.resOf c.X (Ir.pend m c.ws) W ⟨k, d, (ka : Int), (kb : Int), im, t⟩).trap = !(true) by
    unfold Ir.hv Ir.ha Ir.resOf
    simp [hk, Ir.rg])
  have HN := Lib.hid (ReadBox.new w k d ka (kb : Int) im t 100)
  have HM := Lib.hid M
  have HE := Lib.hid E
  have HR := Lib.hid R
  have HW := Lib.hid hW
  have HOK := Lib.hid hok
  have xa := hok.X ka hka
  have HBW := Lib.hid (fun (w' : World) (kk : Keeps (fun _ => False) w w') => Nat.le_trans hB kk.size)
  clear M E R hW hok hid hia hib hil his hk
  go_enter Tryz.func97, Tryz.ntmps97
  go_upto_region 1 with fail
  have hN := HN.out
  clear HN
  generalize (w.alloc _).alloc _ = w1 at *
  generalize w.heap.size + 1 = y at *
  obtain ⟨x, hx⟩ : ∃ x, w.heap.size = x := ⟨_, rfl⟩
  rw [hx] at hN ⊢
  clear hx
  have HB1 := Lib.hid hN
  have HM1 := Lib.hid (HM.out.keep hN.k (fun _ _ h => h))
  clear hN
  obtain ⟨v0, v1, v2, v3, v4, v5⟩ := HB1.out.op
  simp only at v0 v1 v2 v3 v4 v5
  obtain ⟨m0, _⟩ := HM1.out.reg ka hka
  go_quiet (fail)
  generalize hwd : World.drewN w1 _ = w2
  have hkd : Keeps (fun _ => False) w1 w2 := by rw [← hwd]; exact Keeps.of_drewN _ _ _
  have HB2 := Lib.hid (HB1.out.keep hkd)
  have HM2 := Lib.hid (HM1.out.keep hkd (fun _ _ h => h))
  clear hwd hkd m0 v0 v1 v2 v3 v4 v5
  obtain ⟨v0, v1, v2, v3, v4, v5⟩ := HB2.out.op
  simp only at v0 v1 v2 v3 v4 v5
  have xb := HOK.out.X kb hkb
  obtain ⟨m0, _⟩ := HM2.out.reg kb hkb
  go_upto_region 3 with fail
  go_quiet (fail)
  generalize hwd : World.drewN w2 _ = w3
  have hkd : Keeps (fun _ => False) w2 w3 := by rw [← hwd]; exact Keeps.of_drewN _ _ _
  have HB3 := Lib.hid (HB2.out.keep hkd)
  have HM3 := Lib.hid (HM2.out.keep hkd (fun _ _ h => h))
  clear hwd hkd m0 v0 v1 v2 v3 v4 v5
  obtain ⟨v0, v1, v2, v3, v4, v5⟩ := HB3.out.op
  simp only at v0 v1 v2 v3 v4 v5
  have hN4 := HBox.new w3 ⟨k, d, (ka : Int), (kb : Int), im, t⟩ 0 0
  have hka4 := (Keeps.refl (fun _ => False) w3).alloc (.cells (hresC ⟨k, d, (ka : Int), (kb : Int), im, t⟩ 0 0) 176)
  simp only [hresC] at hN4 hka4
  have HN4 := Lib.hid hN4
  have HKA4 := Lib.hid hka4
  clear hN4 hka4
  go_upto_region 5 with fail
  have HB4 := Lib.hid (HB3.out.keep HKA4.out)
  have HM4 := Lib.hid (HM3.out.keep HKA4.out (fun _ _ h => h))
  have HX4 := Lib.hid HN4.out
  have HZW := Lib.hid (show w.heap.size ≤ w3.heap.size ∧ x < w3.heap.size ∧ y < w3.heap.size ∧ mb < w3.heap.size from ⟨HB3.out.k.size, (match HB3.out.op with | ⟨h, _, _, _, _, _⟩ => cell_ltH h), HB3.out.res.lt, HM3.out.lt⟩)
  have HMZ := Lib.hid (fun w' (kk : Keeps (fun b => b = w3.heap.size) (w3.alloc (.cells #[.string k, .int .i64 d, .int .i64 (ka : Int), .int .i64 (kb : Int), .int .u32 im, .int .i64 t, .int .u32 0, .int .u32 0] 176)) w') => HM3.out.keepZ ((HKA4.out.mono (T := fun b => b = w3.heap.size) (fun _ _ h => h.elim)).trans kk (fun _ _ h => h)) (fun b hb e => by have e : b = w3.heap.size := e; omega))
  clear HKA4 HN4
  clear v0 v1 v2 v3 v4 v5
  generalize w3.alloc _ = w4 at *
  generalize w3.heap.size = z at *
  obtain ⟨v0, v1, v2, v3, v4, v5⟩ := HB4.out.op
  simp only at v0 v1 v2 v3 v4 v5
  obtain ⟨⟨z0, z1, z2, z3, z4, z5, z6, z7⟩, zf⟩ := HX4.out.cells
  simp only at z0 z1 z2 z3 z4 z5 z6 z7
  go_upto_region 25 with fail
  clear v0 v1 v2 v3 v4 v5 z0 z1 z2 z3 z4 z5 z6 z7 zf
  obtain ⟨hq1, hq2⟩ := HX4.out.putV im
  have HX6 := Lib.hid hq1
  have HY6 := Lib.hid (HB4.out.res.keep hq2 (fun e => by have e : y = z := e; have := HZW.out; omega))
  have HK6 := Lib.hid (HB4.out.k.trans hq2 (fun b hb e => by have e : b = z := e; have := HZW.out; omega))
  have HLOW := Lib.hid HB4.out.low
  clear hq1 hq2
  generalize w4.setCell _ _ = w6 at *
  obtain ⟨⟨z0, z1, z2, z3, z4, z5, z6, z7⟩, zf⟩ := HX6.out.cells
  simp only at z0 z1 z2 z3 z4 z5 z6 z7
  have HQ := Lib.hid (HY6.out.put (o' := ⟨k, d, (ka : Int), (kb : Int), im, t⟩) (v' := im) (a' := 0))
  obtain ⟨⟨y0, y1, y2, y3, y4, y5, y6, y7⟩, gf⟩ := HY6.out.cells
  simp only at y0 y1 y2 y3 y4 y5 y6 y7
  go_wp2_with fail
  refine bodyPost_ret (results_hres rfl _ _ y ⟨k, d, (ka : Int), (kb : Int), im, t⟩ (im) (0) rfl HQ.out.1) rfl ?_
  exact ReadIs.of (t := true) HPL.out.1 HPL.out.2.1 HPL.out.2.2 HK6.out HLOW.out HQ.out.2
set_option maxHeartbeats 8000000 in
set_option maxRecDepth 100000 in
theorem read_copy (B mb r pb pw ph cp : Nat) (c : Ir.Mc) (m : Nat → Int) (W : Int → Bool) (k : ByteArray) (d a b im t : Int) (w : World) (ea : Nat → Addr) (E : Errs3 w ea) (M : MachAt w B mb r c) (R : RamAt w r pb pw ph cp m) (hW : WatchAt w pw W)
    (hok : Ir.McOk W c) (hi : Ir.OpIn ⟨k, d, a, b, im, t⟩) (hk : Ir.kn k = 2) (hB : B ≤ w.heap.size) :
    Calls Tryz.prog 97 #[.pointer (some ⟨mb, 0, none⟩), .agg #[.string k, .int .i64 d, .int .i64 a, .int .i64 b, .int .u32 im, .int .i64 t]] w (ReadIs w c.X (Ir.pend m c.ws) W ⟨k, d, a, b, im, t⟩) := by
  obtain ⟨_, hid, hia, hib, hil, his, him⟩ := hi
  simp only at hid hia hib hil his him
  obtain ⟨ka, rfl⟩ := Int.eq_ofNat_of_zero_le hia.1
  have hka : ka < 64 := by omega
  have hza : (ka : Int) < 64 := by omega
  obtain ⟨kb, rfl⟩ := Int.eq_ofNat_of_zero_le (hib (by omega)).1
  have hkb : kb < 64 := by have := hib (by omega); omega
  have hzb : (kb : Int) < 64 := by omega
  have HK := Ir.kinds k 2 hk
  simp only [Nat.reduceBEq] at HK
  obtain ⟨k1, k2, k3, k4, k5, k6, k7, k8, k9, _⟩ := HK
  have k5n : (k.toList != [108, 111, 97, 100]) = true := by rw [bne, k5]; rfl
  have HPL := Lib.hid (show Ir.hv c.X (Ir.pend m c.ws) ⟨k, d, (ka : Int), (kb : Int), im, t⟩ = c.X ka ∧ Ir.ha c.X ⟨k, d, (ka : Int), (kb : Int), im, t⟩ = 0 ∧ (Ir.resOf c.X (Ir.pend m c.ws) W ⟨k, d, (ka : Int), (kb : Int), im, t⟩).trap = !(true) by
    unfold Ir.hv Ir.ha Ir.resOf
    simp [hk, Ir.rg])
  have HN := Lib.hid (ReadBox.new w k d ka (kb : Int) im t 100)
  have HM := Lib.hid M
  have HE := Lib.hid E
  have HR := Lib.hid R
  have HW := Lib.hid hW
  have HOK := Lib.hid hok
  have xa := hok.X ka hka
  have HBW := Lib.hid (fun (w' : World) (kk : Keeps (fun _ => False) w w') => Nat.le_trans hB kk.size)
  clear M E R hW hok hid hia hib hil his hk
  go_enter Tryz.func97, Tryz.ntmps97
  go_upto_region 1 with fail
  have hN := HN.out
  clear HN
  generalize (w.alloc _).alloc _ = w1 at *
  generalize w.heap.size + 1 = y at *
  obtain ⟨x, hx⟩ : ∃ x, w.heap.size = x := ⟨_, rfl⟩
  rw [hx] at hN ⊢
  clear hx
  have HB1 := Lib.hid hN
  have HM1 := Lib.hid (HM.out.keep hN.k (fun _ _ h => h))
  clear hN
  obtain ⟨v0, v1, v2, v3, v4, v5⟩ := HB1.out.op
  simp only at v0 v1 v2 v3 v4 v5
  obtain ⟨m0, _⟩ := HM1.out.reg ka hka
  go_quiet (fail)
  generalize hwd : World.drewN w1 _ = w2
  have hkd : Keeps (fun _ => False) w1 w2 := by rw [← hwd]; exact Keeps.of_drewN _ _ _
  have HB2 := Lib.hid (HB1.out.keep hkd)
  have HM2 := Lib.hid (HM1.out.keep hkd (fun _ _ h => h))
  clear hwd hkd m0 v0 v1 v2 v3 v4 v5
  obtain ⟨v0, v1, v2, v3, v4, v5⟩ := HB2.out.op
  simp only at v0 v1 v2 v3 v4 v5
  have xb := HOK.out.X kb hkb
  obtain ⟨m0, _⟩ := HM2.out.reg kb hkb
  go_upto_region 3 with fail
  go_quiet (fail)
  generalize hwd : World.drewN w2 _ = w3
  have hkd : Keeps (fun _ => False) w2 w3 := by rw [← hwd]; exact Keeps.of_drewN _ _ _
  have HB3 := Lib.hid (HB2.out.keep hkd)
  have HM3 := Lib.hid (HM2.out.keep hkd (fun _ _ h => h))
  clear hwd hkd m0 v0 v1 v2 v3 v4 v5
  obtain ⟨v0, v1, v2, v3, v4, v5⟩ := HB3.out.op
  simp only at v0 v1 v2 v3 v4 v5
  have hN4 := HBox.new w3 ⟨k, d, (ka : Int), (kb : Int), im, t⟩ 0 0
  have hka4 := (Keeps.refl (fun _ => False) w3).alloc (.cells (hresC ⟨k, d, (ka : Int), (kb : Int), im, t⟩ 0 0) 176)
  simp only [hresC] at hN4 hka4
  have HN4 := Lib.hid hN4
  have HKA4 := Lib.hid hka4
  clear hN4 hka4
  go_upto_region 5 with fail
  have HB4 := Lib.hid (HB3.out.keep HKA4.out)
  have HM4 := Lib.hid (HM3.out.keep HKA4.out (fun _ _ h => h))
  have HX4 := Lib.hid HN4.out
  have HZW := Lib.hid (show w.heap.size ≤ w3.heap.size ∧ x < w3.heap.size ∧ y < w3.heap.size ∧ mb < w3.heap.size from ⟨HB3.out.k.size, (match HB3.out.op with | ⟨h, _, _, _, _, _⟩ => cell_ltH h), HB3.out.res.lt, HM3.out.lt⟩)
  have HMZ := Lib.hid (fun w' (kk : Keeps (fun b => b = w3.heap.size) (w3.alloc (.cells #[.string k, .int .i64 d, .int .i64 (ka : Int), .int .i64 (kb : Int), .int .u32 im, .int .i64 t, .int .u32 0, .int .u32 0] 176)) w') => HM3.out.keepZ ((HKA4.out.mono (T := fun b => b = w3.heap.size) (fun _ _ h => h.elim)).trans kk (fun _ _ h => h)) (fun b hb e => by have e : b = w3.heap.size := e; omega))
  clear HKA4 HN4
  clear v0 v1 v2 v3 v4 v5
  generalize w3.alloc _ = w4 at *
  generalize w3.heap.size = z at *
  obtain ⟨v0, v1, v2, v3, v4, v5⟩ := HB4.out.op
  simp only at v0 v1 v2 v3 v4 v5
  obtain ⟨⟨z0, z1, z2, z3, z4, z5, z6, z7⟩, zf⟩ := HX4.out.cells
  simp only at z0 z1 z2 z3 z4 z5 z6 z7
  go_upto_region 25 with fail
  clear v0 v1 v2 v3 v4 v5 z0 z1 z2 z3 z4 z5 z6 z7 zf
  obtain ⟨hq1, hq2⟩ := HX4.out.putV (c.X ka)
  have HX6 := Lib.hid hq1
  have HY6 := Lib.hid (HB4.out.res.keep hq2 (fun e => by have e : y = z := e; have := HZW.out; omega))
  have HK6 := Lib.hid (HB4.out.k.trans hq2 (fun b hb e => by have e : b = z := e; have := HZW.out; omega))
  have HLOW := Lib.hid HB4.out.low
  clear hq1 hq2
  generalize w4.setCell _ _ = w6 at *
  obtain ⟨⟨z0, z1, z2, z3, z4, z5, z6, z7⟩, zf⟩ := HX6.out.cells
  simp only at z0 z1 z2 z3 z4 z5 z6 z7
  have HQ := Lib.hid (HY6.out.put (o' := ⟨k, d, (ka : Int), (kb : Int), im, t⟩) (v' := c.X ka) (a' := 0))
  obtain ⟨⟨y0, y1, y2, y3, y4, y5, y6, y7⟩, gf⟩ := HY6.out.cells
  simp only at y0 y1 y2 y3 y4 y5 y6 y7
  go_wp2_with fail
  refine bodyPost_ret (results_hres rfl _ _ y ⟨k, d, (ka : Int), (kb : Int), im, t⟩ (c.X ka) (0) rfl HQ.out.1) rfl ?_
  exact ReadIs.of (t := true) HPL.out.1 HPL.out.2.1 HPL.out.2.2 HK6.out HLOW.out HQ.out.2
set_option maxHeartbeats 8000000 in
set_option maxRecDepth 100000 in
theorem read_if (B mb r pb pw ph cp : Nat) (c : Ir.Mc) (m : Nat → Int) (W : Int → Bool) (k : ByteArray) (d a b im t : Int) (w : World) (ea : Nat → Addr) (E : Errs3 w ea) (M : MachAt w B mb r c) (R : RamAt w r pb pw ph cp m) (hW : WatchAt w pw W)
    (hok : Ir.McOk W c) (hi : Ir.OpIn ⟨k, d, a, b, im, t⟩) (hk : Ir.kn k = 7) (hB : B ≤ w.heap.size) :
    Calls Tryz.prog 97 #[.pointer (some ⟨mb, 0, none⟩), .agg #[.string k, .int .i64 d, .int .i64 a, .int .i64 b, .int .u32 im, .int .i64 t]] w (ReadIs w c.X (Ir.pend m c.ws) W ⟨k, d, a, b, im, t⟩) := by
  obtain ⟨_, hid, hia, hib, hil, his, him⟩ := hi
  simp only at hid hia hib hil his him
  obtain ⟨ka, rfl⟩ := Int.eq_ofNat_of_zero_le hia.1
  have hka : ka < 64 := by omega
  have hza : (ka : Int) < 64 := by omega
  obtain ⟨kb, rfl⟩ := Int.eq_ofNat_of_zero_le (hib (by omega)).1
  have hkb : kb < 64 := by have := hib (by omega); omega
  have hzb : (kb : Int) < 64 := by omega
  have HK := Ir.kinds k 7 hk
  simp only [Nat.reduceBEq] at HK
  obtain ⟨k1, k2, k3, k4, k5, k6, k7, k8, k9, _⟩ := HK
  have k5n : (k.toList != [108, 111, 97, 100]) = true := by rw [bne, k5]; rfl
  have HPL := Lib.hid (show Ir.hv c.X (Ir.pend m c.ws) ⟨k, d, (ka : Int), (kb : Int), im, t⟩ = c.X ka ∧ Ir.ha c.X ⟨k, d, (ka : Int), (kb : Int), im, t⟩ = 0 ∧ (Ir.resOf c.X (Ir.pend m c.ws) W ⟨k, d, (ka : Int), (kb : Int), im, t⟩).trap = !(true) by
    unfold Ir.hv Ir.ha Ir.resOf
    simp [hk, Ir.rg])
  have HN := Lib.hid (ReadBox.new w k d ka (kb : Int) im t 100)
  have HM := Lib.hid M
  have HE := Lib.hid E
  have HR := Lib.hid R
  have HW := Lib.hid hW
  have HOK := Lib.hid hok
  have xa := hok.X ka hka
  have HBW := Lib.hid (fun (w' : World) (kk : Keeps (fun _ => False) w w') => Nat.le_trans hB kk.size)
  clear M E R hW hok hid hia hib hil his hk
  go_enter Tryz.func97, Tryz.ntmps97
  go_upto_region 1 with fail
  have hN := HN.out
  clear HN
  generalize (w.alloc _).alloc _ = w1 at *
  generalize w.heap.size + 1 = y at *
  obtain ⟨x, hx⟩ : ∃ x, w.heap.size = x := ⟨_, rfl⟩
  rw [hx] at hN ⊢
  clear hx
  have HB1 := Lib.hid hN
  have HM1 := Lib.hid (HM.out.keep hN.k (fun _ _ h => h))
  clear hN
  obtain ⟨v0, v1, v2, v3, v4, v5⟩ := HB1.out.op
  simp only at v0 v1 v2 v3 v4 v5
  obtain ⟨m0, _⟩ := HM1.out.reg ka hka
  go_quiet (fail)
  generalize hwd : World.drewN w1 _ = w2
  have hkd : Keeps (fun _ => False) w1 w2 := by rw [← hwd]; exact Keeps.of_drewN _ _ _
  have HB2 := Lib.hid (HB1.out.keep hkd)
  have HM2 := Lib.hid (HM1.out.keep hkd (fun _ _ h => h))
  clear hwd hkd m0 v0 v1 v2 v3 v4 v5
  obtain ⟨v0, v1, v2, v3, v4, v5⟩ := HB2.out.op
  simp only at v0 v1 v2 v3 v4 v5
  have xb := HOK.out.X kb hkb
  obtain ⟨m0, _⟩ := HM2.out.reg kb hkb
  go_upto_region 3 with fail
  go_quiet (fail)
  generalize hwd : World.drewN w2 _ = w3
  have hkd : Keeps (fun _ => False) w2 w3 := by rw [← hwd]; exact Keeps.of_drewN _ _ _
  have HB3 := Lib.hid (HB2.out.keep hkd)
  have HM3 := Lib.hid (HM2.out.keep hkd (fun _ _ h => h))
  clear hwd hkd m0 v0 v1 v2 v3 v4 v5
  obtain ⟨v0, v1, v2, v3, v4, v5⟩ := HB3.out.op
  simp only at v0 v1 v2 v3 v4 v5
  have hN4 := HBox.new w3 ⟨k, d, (ka : Int), (kb : Int), im, t⟩ 0 0
  have hka4 := (Keeps.refl (fun _ => False) w3).alloc (.cells (hresC ⟨k, d, (ka : Int), (kb : Int), im, t⟩ 0 0) 176)
  simp only [hresC] at hN4 hka4
  have HN4 := Lib.hid hN4
  have HKA4 := Lib.hid hka4
  clear hN4 hka4
  go_upto_region 5 with fail
  have HB4 := Lib.hid (HB3.out.keep HKA4.out)
  have HM4 := Lib.hid (HM3.out.keep HKA4.out (fun _ _ h => h))
  have HX4 := Lib.hid HN4.out
  have HZW := Lib.hid (show w.heap.size ≤ w3.heap.size ∧ x < w3.heap.size ∧ y < w3.heap.size ∧ mb < w3.heap.size from ⟨HB3.out.k.size, (match HB3.out.op with | ⟨h, _, _, _, _, _⟩ => cell_ltH h), HB3.out.res.lt, HM3.out.lt⟩)
  have HMZ := Lib.hid (fun w' (kk : Keeps (fun b => b = w3.heap.size) (w3.alloc (.cells #[.string k, .int .i64 d, .int .i64 (ka : Int), .int .i64 (kb : Int), .int .u32 im, .int .i64 t, .int .u32 0, .int .u32 0] 176)) w') => HM3.out.keepZ ((HKA4.out.mono (T := fun b => b = w3.heap.size) (fun _ _ h => h.elim)).trans kk (fun _ _ h => h)) (fun b hb e => by have e : b = w3.heap.size := e; omega))
  clear HKA4 HN4
  clear v0 v1 v2 v3 v4 v5
  generalize w3.alloc _ = w4 at *
  generalize w3.heap.size = z at *
  obtain ⟨v0, v1, v2, v3, v4, v5⟩ := HB4.out.op
  simp only at v0 v1 v2 v3 v4 v5
  obtain ⟨⟨z0, z1, z2, z3, z4, z5, z6, z7⟩, zf⟩ := HX4.out.cells
  simp only at z0 z1 z2 z3 z4 z5 z6 z7
  go_upto_region 25 with fail
  clear v0 v1 v2 v3 v4 v5 z0 z1 z2 z3 z4 z5 z6 z7 zf
  obtain ⟨hq1, hq2⟩ := HX4.out.putV (c.X ka)
  have HX6 := Lib.hid hq1
  have HY6 := Lib.hid (HB4.out.res.keep hq2 (fun e => by have e : y = z := e; have := HZW.out; omega))
  have HK6 := Lib.hid (HB4.out.k.trans hq2 (fun b hb e => by have e : b = z := e; have := HZW.out; omega))
  have HLOW := Lib.hid HB4.out.low
  clear hq1 hq2
  generalize w4.setCell _ _ = w6 at *
  obtain ⟨⟨z0, z1, z2, z3, z4, z5, z6, z7⟩, zf⟩ := HX6.out.cells
  simp only at z0 z1 z2 z3 z4 z5 z6 z7
  have HQ := Lib.hid (HY6.out.put (o' := ⟨k, d, (ka : Int), (kb : Int), im, t⟩) (v' := c.X ka) (a' := 0))
  obtain ⟨⟨y0, y1, y2, y3, y4, y5, y6, y7⟩, gf⟩ := HY6.out.cells
  simp only at y0 y1 y2 y3 y4 y5 y6 y7
  go_wp2_with fail
  refine bodyPost_ret (results_hres rfl _ _ y ⟨k, d, (ka : Int), (kb : Int), im, t⟩ (c.X ka) (0) rfl HQ.out.1) rfl ?_
  exact ReadIs.of (t := true) HPL.out.1 HPL.out.2.1 HPL.out.2.2 HK6.out HLOW.out HQ.out.2
set_option maxHeartbeats 8000000 in
set_option maxRecDepth 100000 in
theorem read_out (B mb r pb pw ph cp : Nat) (c : Ir.Mc) (m : Nat → Int) (W : Int → Bool) (k : ByteArray) (d a b im t : Int) (w : World) (ea : Nat → Addr) (E : Errs3 w ea) (M : MachAt w B mb r c) (R : RamAt w r pb pw ph cp m) (hW : WatchAt w pw W)
    (hok : Ir.McOk W c) (hi : Ir.OpIn ⟨k, d, a, b, im, t⟩) (hk : Ir.kn k = 8) (hB : B ≤ w.heap.size) :
    Calls Tryz.prog 97 #[.pointer (some ⟨mb, 0, none⟩), .agg #[.string k, .int .i64 d, .int .i64 a, .int .i64 b, .int .u32 im, .int .i64 t]] w (ReadIs w c.X (Ir.pend m c.ws) W ⟨k, d, a, b, im, t⟩) := by
  obtain ⟨_, hid, hia, hib, hil, his, him⟩ := hi
  simp only at hid hia hib hil his him
  obtain ⟨ka, rfl⟩ := Int.eq_ofNat_of_zero_le hia.1
  have hka : ka < 64 := by omega
  have hza : (ka : Int) < 64 := by omega
  obtain ⟨kb, rfl⟩ := Int.eq_ofNat_of_zero_le (hib (by omega)).1
  have hkb : kb < 64 := by have := hib (by omega); omega
  have hzb : (kb : Int) < 64 := by omega
  have HK := Ir.kinds k 8 hk
  simp only [Nat.reduceBEq] at HK
  obtain ⟨k1, k2, k3, k4, k5, k6, k7, k8, k9, _⟩ := HK
  have k5n : (k.toList != [108, 111, 97, 100]) = true := by rw [bne, k5]; rfl
  have HPL := Lib.hid (show Ir.hv c.X (Ir.pend m c.ws) ⟨k, d, (ka : Int), (kb : Int), im, t⟩ = c.X ka ∧ Ir.ha c.X ⟨k, d, (ka : Int), (kb : Int), im, t⟩ = 0 ∧ (Ir.resOf c.X (Ir.pend m c.ws) W ⟨k, d, (ka : Int), (kb : Int), im, t⟩).trap = !(true) by
    unfold Ir.hv Ir.ha Ir.resOf
    simp [hk, Ir.rg])
  have HN := Lib.hid (ReadBox.new w k d ka (kb : Int) im t 100)
  have HM := Lib.hid M
  have HE := Lib.hid E
  have HR := Lib.hid R
  have HW := Lib.hid hW
  have HOK := Lib.hid hok
  have xa := hok.X ka hka
  have HBW := Lib.hid (fun (w' : World) (kk : Keeps (fun _ => False) w w') => Nat.le_trans hB kk.size)
  clear M E R hW hok hid hia hib hil his hk
  go_enter Tryz.func97, Tryz.ntmps97
  go_upto_region 1 with fail
  have hN := HN.out
  clear HN
  generalize (w.alloc _).alloc _ = w1 at *
  generalize w.heap.size + 1 = y at *
  obtain ⟨x, hx⟩ : ∃ x, w.heap.size = x := ⟨_, rfl⟩
  rw [hx] at hN ⊢
  clear hx
  have HB1 := Lib.hid hN
  have HM1 := Lib.hid (HM.out.keep hN.k (fun _ _ h => h))
  clear hN
  obtain ⟨v0, v1, v2, v3, v4, v5⟩ := HB1.out.op
  simp only at v0 v1 v2 v3 v4 v5
  obtain ⟨m0, _⟩ := HM1.out.reg ka hka
  go_quiet (fail)
  generalize hwd : World.drewN w1 _ = w2
  have hkd : Keeps (fun _ => False) w1 w2 := by rw [← hwd]; exact Keeps.of_drewN _ _ _
  have HB2 := Lib.hid (HB1.out.keep hkd)
  have HM2 := Lib.hid (HM1.out.keep hkd (fun _ _ h => h))
  clear hwd hkd m0 v0 v1 v2 v3 v4 v5
  obtain ⟨v0, v1, v2, v3, v4, v5⟩ := HB2.out.op
  simp only at v0 v1 v2 v3 v4 v5
  have xb := HOK.out.X kb hkb
  obtain ⟨m0, _⟩ := HM2.out.reg kb hkb
  go_upto_region 3 with fail
  go_quiet (fail)
  generalize hwd : World.drewN w2 _ = w3
  have hkd : Keeps (fun _ => False) w2 w3 := by rw [← hwd]; exact Keeps.of_drewN _ _ _
  have HB3 := Lib.hid (HB2.out.keep hkd)
  have HM3 := Lib.hid (HM2.out.keep hkd (fun _ _ h => h))
  clear hwd hkd m0 v0 v1 v2 v3 v4 v5
  obtain ⟨v0, v1, v2, v3, v4, v5⟩ := HB3.out.op
  simp only at v0 v1 v2 v3 v4 v5
  have hN4 := HBox.new w3 ⟨k, d, (ka : Int), (kb : Int), im, t⟩ 0 0
  have hka4 := (Keeps.refl (fun _ => False) w3).alloc (.cells (hresC ⟨k, d, (ka : Int), (kb : Int), im, t⟩ 0 0) 176)
  simp only [hresC] at hN4 hka4
  have HN4 := Lib.hid hN4
  have HKA4 := Lib.hid hka4
  clear hN4 hka4
  go_upto_region 5 with fail
  have HB4 := Lib.hid (HB3.out.keep HKA4.out)
  have HM4 := Lib.hid (HM3.out.keep HKA4.out (fun _ _ h => h))
  have HX4 := Lib.hid HN4.out
  have HZW := Lib.hid (show w.heap.size ≤ w3.heap.size ∧ x < w3.heap.size ∧ y < w3.heap.size ∧ mb < w3.heap.size from ⟨HB3.out.k.size, (match HB3.out.op with | ⟨h, _, _, _, _, _⟩ => cell_ltH h), HB3.out.res.lt, HM3.out.lt⟩)
  have HMZ := Lib.hid (fun w' (kk : Keeps (fun b => b = w3.heap.size) (w3.alloc (.cells #[.string k, .int .i64 d, .int .i64 (ka : Int), .int .i64 (kb : Int), .int .u32 im, .int .i64 t, .int .u32 0, .int .u32 0] 176)) w') => HM3.out.keepZ ((HKA4.out.mono (T := fun b => b = w3.heap.size) (fun _ _ h => h.elim)).trans kk (fun _ _ h => h)) (fun b hb e => by have e : b = w3.heap.size := e; omega))
  clear HKA4 HN4
  clear v0 v1 v2 v3 v4 v5
  generalize w3.alloc _ = w4 at *
  generalize w3.heap.size = z at *
  obtain ⟨v0, v1, v2, v3, v4, v5⟩ := HB4.out.op
  simp only at v0 v1 v2 v3 v4 v5
  obtain ⟨⟨z0, z1, z2, z3, z4, z5, z6, z7⟩, zf⟩ := HX4.out.cells
  simp only at z0 z1 z2 z3 z4 z5 z6 z7
  go_upto_region 25 with fail
  clear v0 v1 v2 v3 v4 v5 z0 z1 z2 z3 z4 z5 z6 z7 zf
  obtain ⟨hq1, hq2⟩ := HX4.out.putV (c.X ka)
  have HX6 := Lib.hid hq1
  have HY6 := Lib.hid (HB4.out.res.keep hq2 (fun e => by have e : y = z := e; have := HZW.out; omega))
  have HK6 := Lib.hid (HB4.out.k.trans hq2 (fun b hb e => by have e : b = z := e; have := HZW.out; omega))
  have HLOW := Lib.hid HB4.out.low
  clear hq1 hq2
  generalize w4.setCell _ _ = w6 at *
  obtain ⟨⟨z0, z1, z2, z3, z4, z5, z6, z7⟩, zf⟩ := HX6.out.cells
  simp only at z0 z1 z2 z3 z4 z5 z6 z7
  have HQ := Lib.hid (HY6.out.put (o' := ⟨k, d, (ka : Int), (kb : Int), im, t⟩) (v' := c.X ka) (a' := 0))
  obtain ⟨⟨y0, y1, y2, y3, y4, y5, y6, y7⟩, gf⟩ := HY6.out.cells
  simp only at y0 y1 y2 y3 y4 y5 y6 y7
  go_wp2_with fail
  refine bodyPost_ret (results_hres rfl _ _ y ⟨k, d, (ka : Int), (kb : Int), im, t⟩ (c.X ka) (0) rfl HQ.out.1) rfl ?_
  exact ReadIs.of (t := true) HPL.out.1 HPL.out.2.1 HPL.out.2.2 HK6.out HLOW.out HQ.out.2
set_option maxHeartbeats 8000000 in
set_option maxRecDepth 100000 in
theorem read_outr (B mb r pb pw ph cp : Nat) (c : Ir.Mc) (m : Nat → Int) (W : Int → Bool) (k : ByteArray) (d a b im t : Int) (w : World) (ea : Nat → Addr) (E : Errs3 w ea) (M : MachAt w B mb r c) (R : RamAt w r pb pw ph cp m) (hW : WatchAt w pw W)
    (hok : Ir.McOk W c) (hi : Ir.OpIn ⟨k, d, a, b, im, t⟩) (hk : Ir.kn k = 9) (hB : B ≤ w.heap.size) :
    Calls Tryz.prog 97 #[.pointer (some ⟨mb, 0, none⟩), .agg #[.string k, .int .i64 d, .int .i64 a, .int .i64 b, .int .u32 im, .int .i64 t]] w (ReadIs w c.X (Ir.pend m c.ws) W ⟨k, d, a, b, im, t⟩) := by
  obtain ⟨_, hid, hia, hib, hil, his, him⟩ := hi
  simp only at hid hia hib hil his him
  obtain ⟨ka, rfl⟩ := Int.eq_ofNat_of_zero_le hia.1
  have hka : ka < 64 := by omega
  have hza : (ka : Int) < 64 := by omega
  obtain ⟨kb, rfl⟩ := Int.eq_ofNat_of_zero_le (hib (by omega)).1
  have hkb : kb < 64 := by have := hib (by omega); omega
  have hzb : (kb : Int) < 64 := by omega
  have HK := Ir.kinds k 9 hk
  simp only [Nat.reduceBEq] at HK
  obtain ⟨k1, k2, k3, k4, k5, k6, k7, k8, k9, _⟩ := HK
  have k5n : (k.toList != [108, 111, 97, 100]) = true := by rw [bne, k5]; rfl
  have HPL := Lib.hid (show Ir.hv c.X (Ir.pend m c.ws) ⟨k, d, (ka : Int), (kb : Int), im, t⟩ = c.X ka ∧ Ir.ha c.X ⟨k, d, (ka : Int), (kb : Int), im, t⟩ = 0 ∧ (Ir.resOf c.X (Ir.pend m c.ws) W ⟨k, d, (ka : Int), (kb : Int), im, t⟩).trap = !(true) by
    unfold Ir.hv Ir.ha Ir.resOf
    simp [hk, Ir.rg])
  have HN := Lib.hid (ReadBox.new w k d ka (kb : Int) im t 100)
  have HM := Lib.hid M
  have HE := Lib.hid E
  have HR := Lib.hid R
  have HW := Lib.hid hW
  have HOK := Lib.hid hok
  have xa := hok.X ka hka
  have HBW := Lib.hid (fun (w' : World) (kk : Keeps (fun _ => False) w w') => Nat.le_trans hB kk.size)
  clear M E R hW hok hid hia hib hil his hk
  go_enter Tryz.func97, Tryz.ntmps97
  go_upto_region 1 with fail
  have hN := HN.out
  clear HN
  generalize (w.alloc _).alloc _ = w1 at *
  generalize w.heap.size + 1 = y at *
  obtain ⟨x, hx⟩ : ∃ x, w.heap.size = x := ⟨_, rfl⟩
  rw [hx] at hN ⊢
  clear hx
  have HB1 := Lib.hid hN
  have HM1 := Lib.hid (HM.out.keep hN.k (fun _ _ h => h))
  clear hN
  obtain ⟨v0, v1, v2, v3, v4, v5⟩ := HB1.out.op
  simp only at v0 v1 v2 v3 v4 v5
  obtain ⟨m0, _⟩ := HM1.out.reg ka hka
  go_quiet (fail)
  generalize hwd : World.drewN w1 _ = w2
  have hkd : Keeps (fun _ => False) w1 w2 := by rw [← hwd]; exact Keeps.of_drewN _ _ _
  have HB2 := Lib.hid (HB1.out.keep hkd)
  have HM2 := Lib.hid (HM1.out.keep hkd (fun _ _ h => h))
  clear hwd hkd m0 v0 v1 v2 v3 v4 v5
  obtain ⟨v0, v1, v2, v3, v4, v5⟩ := HB2.out.op
  simp only at v0 v1 v2 v3 v4 v5
  have xb := HOK.out.X kb hkb
  obtain ⟨m0, _⟩ := HM2.out.reg kb hkb
  go_upto_region 3 with fail
  go_quiet (fail)
  generalize hwd : World.drewN w2 _ = w3
  have hkd : Keeps (fun _ => False) w2 w3 := by rw [← hwd]; exact Keeps.of_drewN _ _ _
  have HB3 := Lib.hid (HB2.out.keep hkd)
  have HM3 := Lib.hid (HM2.out.keep hkd (fun _ _ h => h))
  clear hwd hkd m0 v0 v1 v2 v3 v4 v5
  obtain ⟨v0, v1, v2, v3, v4, v5⟩ := HB3.out.op
  simp only at v0 v1 v2 v3 v4 v5
  have hN4 := HBox.new w3 ⟨k, d, (ka : Int), (kb : Int), im, t⟩ 0 0
  have hka4 := (Keeps.refl (fun _ => False) w3).alloc (.cells (hresC ⟨k, d, (ka : Int), (kb : Int), im, t⟩ 0 0) 176)
  simp only [hresC] at hN4 hka4
  have HN4 := Lib.hid hN4
  have HKA4 := Lib.hid hka4
  clear hN4 hka4
  go_upto_region 5 with fail
  have HB4 := Lib.hid (HB3.out.keep HKA4.out)
  have HM4 := Lib.hid (HM3.out.keep HKA4.out (fun _ _ h => h))
  have HX4 := Lib.hid HN4.out
  have HZW := Lib.hid (show w.heap.size ≤ w3.heap.size ∧ x < w3.heap.size ∧ y < w3.heap.size ∧ mb < w3.heap.size from ⟨HB3.out.k.size, (match HB3.out.op with | ⟨h, _, _, _, _, _⟩ => cell_ltH h), HB3.out.res.lt, HM3.out.lt⟩)
  have HMZ := Lib.hid (fun w' (kk : Keeps (fun b => b = w3.heap.size) (w3.alloc (.cells #[.string k, .int .i64 d, .int .i64 (ka : Int), .int .i64 (kb : Int), .int .u32 im, .int .i64 t, .int .u32 0, .int .u32 0] 176)) w') => HM3.out.keepZ ((HKA4.out.mono (T := fun b => b = w3.heap.size) (fun _ _ h => h.elim)).trans kk (fun _ _ h => h)) (fun b hb e => by have e : b = w3.heap.size := e; omega))
  clear HKA4 HN4
  clear v0 v1 v2 v3 v4 v5
  generalize w3.alloc _ = w4 at *
  generalize w3.heap.size = z at *
  obtain ⟨v0, v1, v2, v3, v4, v5⟩ := HB4.out.op
  simp only at v0 v1 v2 v3 v4 v5
  obtain ⟨⟨z0, z1, z2, z3, z4, z5, z6, z7⟩, zf⟩ := HX4.out.cells
  simp only at z0 z1 z2 z3 z4 z5 z6 z7
  go_upto_region 25 with fail
  clear v0 v1 v2 v3 v4 v5 z0 z1 z2 z3 z4 z5 z6 z7 zf
  obtain ⟨hq1, hq2⟩ := HX4.out.putV (c.X ka)
  have HX6 := Lib.hid hq1
  have HY6 := Lib.hid (HB4.out.res.keep hq2 (fun e => by have e : y = z := e; have := HZW.out; omega))
  have HK6 := Lib.hid (HB4.out.k.trans hq2 (fun b hb e => by have e : b = z := e; have := HZW.out; omega))
  have HLOW := Lib.hid HB4.out.low
  clear hq1 hq2
  generalize w4.setCell _ _ = w6 at *
  obtain ⟨⟨z0, z1, z2, z3, z4, z5, z6, z7⟩, zf⟩ := HX6.out.cells
  simp only at z0 z1 z2 z3 z4 z5 z6 z7
  have HQ := Lib.hid (HY6.out.put (o' := ⟨k, d, (ka : Int), (kb : Int), im, t⟩) (v' := c.X ka) (a' := 0))
  obtain ⟨⟨y0, y1, y2, y3, y4, y5, y6, y7⟩, gf⟩ := HY6.out.cells
  simp only at y0 y1 y2 y3 y4 y5 y6 y7
  go_wp2_with fail
  refine bodyPost_ret (results_hres rfl _ _ y ⟨k, d, (ka : Int), (kb : Int), im, t⟩ (c.X ka) (0) rfl HQ.out.1) rfl ?_
  exact ReadIs.of (t := true) HPL.out.1 HPL.out.2.1 HPL.out.2.2 HK6.out HLOW.out HQ.out.2
end Go.Proofs.YtknhfobcejpmeaaGreatDoor
