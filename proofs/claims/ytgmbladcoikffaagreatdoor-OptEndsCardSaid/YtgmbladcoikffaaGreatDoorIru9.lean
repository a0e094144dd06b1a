import Derived.Test.YtgmbladcoikffaaGreatDoorIrur
import Derived.Test.YtgmbladcoikffaaGreatDoorIrOp3
import Derived.Test.YtgmbladcoikffaaGreatDoorIrOps
import Derived.Laws.Rows
import Derived.BigQuiet
import Derived.Test.YtgmbladcoikffaaGreatDoorIru1
import Derived.Test.YtgmbladcoikffaaGreatDoorIru7
import Derived.Test.YtgmbladcoikffaaGreatDoorMach
import Derived.LoopTactic
import Derived.Test.YtgmbladcoikffaaGreatDoorIru8
import Derived.Test.YtgmbladcoikffaaGreatDoorIru3

/- Each -/
/- Rows of one op each, of the call's own: the walks of the law's each, of the reference's EvalOf. Printed by gen/each.py. -/
namespace Go.Proofs.YtgmbladcoikffaaGreatDoor
open Go.RowKit Go.Deep
set_option linter.unusedVariables false
set_option linter.unusedSimpArgs false

def rowV (g : Nat) : Value := .slice (some ⟨g, 0, none⟩) 1 1
theorem Tryz.info_row : (Tryz.prog.info? 23).map (fun i => (i.zero, i.size, i.bytes)) = some (some (.slice none 0 0), 1, 24) := by kernel_rfl
/-- rows of one op each -/
def EachAt (w : World) (B : Nat) (v : Value) (l : List Ir.Op) : Prop :=
  ∃ gs : List Nat, gs.length = l.length ∧ w.ownsRow B 23 1 v l.length (gs.map rowV) ∧ ∀ j, j < l.length → B ≤ gs.getD j 0 ∧ w.heap[gs.getD j 0]? = some (.cells (opC (l.getD j Ir.nop)) 85 (0, 0))
theorem EachAt.quiet {w w' : World} {B : Nat} {v : Value} {l : List Ir.Op} (h : EachAt w B v l) (k : Keeps (fun _ => False) w w') : EachAt w' B v l := by
  obtain ⟨gs, h1, h2, h3⟩ := h
  exact ⟨gs, h1, owns_keep h2 k (fun _ _ h => h), fun j hj => ⟨(h3 j hj).1, (k.block _ (Array.getElem?_eq_some_iff.1 (h3 j hj).2).1 (fun h => h)).trans (h3 j hj).2⟩⟩
theorem EachAt.nil (w : World) (B : Nat) : EachAt w B (.slice none 0 0) [] := ⟨[], rfl, World.ownsRow_nil _ _ _ _, fun j hj => absurd hj (by simp)⟩
/-- one more -/
theorem EachAt.step {w2 w3 : World} {B g : Nat} {v v' : Value} {l : List Ir.Op} {o : Ir.Op} {gs : List Nat} (h1 : gs.length = l.length) (h2 : w2.ownsRow B 23 1 v l.length (gs.map rowV)) (h3 : ∀ j, j < l.length → B ≤ gs.getD j 0 ∧ w2.heap[gs.getD j 0]? = some (.cells (opC (l.getD j Ir.nop)) 85 (0, 0)))
    (hg : B ≤ g ∧ w2.heap[g]? = some (.cells (opC o) 85 (0, 0))) (hk : Keeps (fun k => v.ownBlock = some k) w2 w3) (hown : w3.ownsRow B 23 1 v' (l.length + 1) (gs.map rowV ++ [rowV g])) : EachAt w3 B v' (l ++ [o]) := by
  have hne : ∀ k c, w2.heap[k]? = some (.cells c 85 (0, 0)) → ¬ v.ownBlock = some k := fun k c hc e => by
    obtain ⟨_, ⟨h4, _⟩ | ⟨g2, cap, cur, h4, h5, h6, _⟩⟩ := h2
    · rw [h4] at e; cases e
    · rw [h4] at e
      injection e with e
      subst e
      rw [hc] at h6
      injection h6 with h6
      injection h6 with _ h7
      exact absurd h7 (by decide)
  refine ⟨gs ++ [g], by simp [h1], ?_, fun j hj => ?_⟩
  · rw [List.length_append, List.length_singleton, List.map_append]
    exact hown
  · rw [List.length_append, List.length_singleton] at hj
    by_cases e : j < l.length
    · have a1 : (gs ++ [g]).getD j 0 = gs.getD j 0 := by simp [List.getD_eq_getElem?_getD, List.getElem?_append_left (show j < gs.length by omega)]
      have a2 : (l ++ [o]).getD j Ir.nop = l.getD j Ir.nop := by simp [List.getD_eq_getElem?_getD, List.getElem?_append_left e]
      rw [a1, a2]
      have := h3 j e
      exact ⟨this.1, (hk.block _ (Array.getElem?_eq_some_iff.1 this.2).1 (hne _ _ this.2)).trans this.2⟩
    · obtain rfl : j = l.length := by omega
      have a1 : (gs ++ [g]).getD l.length 0 = g := by rw [← h1]; simp [List.getD_eq_getElem?_getD]
      have a2 : (l ++ [o]).getD l.length Ir.nop = o := by simp [List.getD_eq_getElem?_getD]
      rw [a1, a2]
      exact ⟨hg.1, (hk.block _ (Array.getElem?_eq_some_iff.1 hg.2).1 (hne _ _ hg.2)).trans hg.2⟩
theorem EachAt.rows {w : World} {B : Nat} {v : Value} {l : List Ir.Op} (h : EachAt w B v l) : ∃ A cap, v = .slice A l.length cap ∧ cap ≤ 9223372036854775807 ∧ RowsAt w A l.length cap (l.map fun o => [o]) := by
  obtain ⟨gs, h1, h2, h3⟩ := h
  obtain ⟨A, cap, rfl⟩ := owns_slice h2
  refine ⟨A, cap, rfl, owns_cap h2, ?_⟩
  obtain ⟨hlen, ⟨h4, h5⟩ | ⟨g, cap', cur, h4, h5, h6, h7, h8, h9, h10⟩⟩ := h2
  · injection h4 with e1 e2 e3
    exact ⟨by simp, by omega, .inl e3⟩
  · injection h4 with e1 e2 e3
    subst e1 e3
    refine ⟨by simp, h7, .inr ⟨g, 0, rfl, (Array.getElem?_eq_some_iff.1 h6).1, fun i hi => ?_⟩⟩
    have hr : (l.map fun o => [o]).getD i [] = [l.getD i Ir.nop] := by
      rw [List.getD_eq_getElem?_getD, List.getElem?_map, List.getElem?_eq_getElem hi, List.getD_eq_getElem?_getD, List.getElem?_eq_getElem hi]
      rfl
    rw [hr]
    have hc : w.cell? ⟨g, 0 + i, none⟩ = some (rowV (gs.getD i 0)) := by
      have e : (gs.map rowV)[i]? = some (rowV (gs.getD i 0)) := by
        rw [List.getElem?_map, List.getElem?_eq_getElem (by omega), List.getD_eq_getElem?_getD, List.getElem?_eq_getElem (by omega)]
        rfl
      rw [← h10, List.getElem?_take_of_lt (by omega)] at e
      unfold World.cell?
      rw [h6]
      simp only [Nat.zero_add]
      simpa using e
    refine ⟨some ⟨gs.getD i 0, 0, none⟩, 1, hc, ⟨rfl, Nat.le_refl _, .inr ⟨gs.getD i 0, 0, rfl, (Array.getElem?_eq_some_iff.1 (h3 i hi).2).1, fun j hj => ?_⟩⟩, by decide⟩
    have hj : j < 1 := hj
    obtain rfl : j = 0 := by omega
    refine OpLies.of_cells fun q hq v hv => ?_
    unfold World.cell?
    rw [(h3 i hi).2]
    simpa using hv
set_option maxHeartbeats 4000000 in
set_option maxRecDepth 100000 in
theorem each_any (A : Option Addr) (n cap : Nat) (l : List Ir.Op) (w : World) (V : OpsAt w A n cap l) (hc : cap ≤ 9223372036854775807) (hn : n < 1000000) :
    Calls Tryz.prog 29 #[.slice A n cap] w fun e w' => ∃ v, e = .returned v ∧ EachAt w' w.heap.size v l ∧ Keeps (fun _ => False) w w' := by
  obtain ⟨i0, hinf, hz0, hz1, hz2⟩ := info_parts Tryz.info_row
  have HV := Lib.hid V
  have HL := Lib.hid V.len
  have hnc := V.le
  have HK0 := Lib.hid (Keeps.refl (fun _ => False) w)
  obtain ⟨B, hB⟩ : ∃ B, w.heap.size = B := ⟨_, rfl⟩
  rw [hB]
  have HBE := Lib.hid hB
  clear V hB
  go_enter Tryz.func29, Tryz.ntmps29
  go_wp2_with fail
  go_loopw [3, 4] (fun s1 s2 wr => ∃ i : Nat, i ≤ n ∧ s2 = .int .i64 i ∧ EachAt wr B s1 (l.take i) ∧ Keeps (fun _ => False) w wr) (fun _ s2 _ => n - (intOf s2).toNat)
  case atStart => exact ⟨0, by omega, rfl, by rw [List.take_zero]; exact EachAt.nil _ _, HK0.out⟩
  case round =>
    obtain ⟨i, hi, rfl, hE, hK⟩ := hrel
    have HE := Lib.hid hE
    have HK := Lib.hid hK
    clear hE hK
    by_cases hlt : i < n
    · obtain ⟨ob, oo, rfl, e0, e1, e2, e3, e4, e5⟩ := (HV.out.quiet HK.out).get hlt
      have hil : i < l.length := by rw [HL.out]; exact hlt
      have HTS := Lib.hid (Ir.take_succ_getD l i hil)
      have hlen : (l.take i).length = i := by rw [List.length_take, Nat.min_eq_left (Nat.le_of_lt hil)]
      obtain ⟨op, hop⟩ : ∃ op, l.getD i Ir.nop = op := ⟨_, rfl⟩
      rw [hop] at e0 e1 e2 e3 e4 e5 HTS
      clear hop
      obtain ⟨ok, od, oa, ob2, oim, oat⟩ := op
      simp only at e0 e1 e2 e3 e4 e5
      have hi63 : (i : Int) < n := by omega
      obtain ⟨gs, hg1, hg2, hg3⟩ := HE.out
      rw [hlen] at hg2
      obtain ⟨A1, cap1, rfl⟩ := owns_slice hg2
      have hbn := blk_alloc_new wr (.cells #[.string ok, .int .i64 od, .int .i64 oa, .int .i64 ob2, .int .u32 oim, .int .i64 oat] 85)
      have hka := (Keeps.refl (fun _ => False) wr).alloc (.cells #[.string ok, .int .i64 od, .int .i64 oa, .int .i64 ob2, .int .u32 oim, .int .i64 oat] 85)
      go_upto_region 6 with fail
      obtain ⟨g, hgz⟩ : ∃ g, wr.heap.size = g := ⟨_, rfl⟩
      rw [hgz] at hbn ⊢
      have HGB := Lib.hid (show B ≤ g by
        rw [← hgz, ← HBE.out]
        exact HK.out.size)
      clear hgz
      generalize wr.alloc _ = w2 at *
      have HBN := Lib.hid hbn
      have HKA := Lib.hid hka
      have hg2b := owns_keep hg2 hka (fun _ _ h => h)
      have HG3 := Lib.hid (show ∀ j, j < (l.take i).length → B ≤ gs.getD j 0 ∧ (w2.alloc (.cells #[.slice (some ⟨g, 0, none⟩) 1 1] 23)).heap[gs.getD j 0]? = some (.cells (opC ((l.take i).getD j Ir.nop)) 85 (0, 0)) from fun j hj => by
        have h := hg3 j hj
        have h2 := (hka.block _ (Array.getElem?_eq_some_iff.1 h.2).1 (fun h => h)).trans h.2
        exact ⟨h.1, (blk_alloc_lt _ _ _ (Array.getElem?_eq_some_iff.1 h2).1).trans h2⟩)
      have HG1 := Lib.hid hg1
      have HQ := Lib.hid (show (w2.alloc (.cells #[.slice (some ⟨g, 0, none⟩) 1 1] 23)).ownsRow B 23 1 (.slice A1 i cap1) i (gs.map rowV) from hg2b.alloc _)
      have HGG := Lib.hid (show B ≤ g ∧ (w2.alloc (.cells #[.slice (some ⟨g, 0, none⟩) 1 1] 23)).heap[g]? = some (.cells (opC (⟨ok, od, oa, ob2, oim, oat⟩ : Ir.Op)) 85 (0, 0)) from
        ⟨HGB.out, (blk_alloc_lt _ _ _ (Array.getElem?_eq_some_iff.1 hbn).1).trans hbn⟩)
      have HCN := Lib.hid (fun j u hj => cells_new w2 [.slice (some ⟨g, 0, none⟩) 1 1] 23 j u hj)
      have HONE : Hid (∀ u ∈ [Value.slice (some ⟨g, 0, none⟩) 1 1], u.oneCell' = true) := Lib.hid (by
        intro u hu
        simp only [List.mem_cons, List.not_mem_nil, or_false] at hu
        rw [hu]
        rfl)
      have HBS := Lib.hid (show B ≤ (w2.alloc (.cells #[.slice (some ⟨g, 0, none⟩) 1 1] 23)).heap.size by
        rw [nblk_alloc]
        have := hka.size
        have := HK.out.size
        have := HBE.out
        omega)
      have hmx : i + 1 ≤ maxLen := by unfold maxLen; omega
      have HLL := Lib.hid (show (gs.map rowV).length = i * 1 by rw [List.length_map, hg1, hlen, Nat.mul_one])
      have HLN := Lib.hid hlen
      have HK2 := Lib.hid (HK.out.trans hka (fun _ _ h => h))
      clear hg1 hg2 hg3 hg2b hka hbn HE hlen e0 e1 e2 e3 e4 e5
      go_wp2_with (at_builtin; go_loud (refine wpList_append_own _ rfl _ _ 69 rfl B 23 i0 _ 1 24 Tryz.underlying69 hinf hz0 hz1 hz2 rfl (by decide) (.slice A1 i cap1) i (gs.map rowV) rfl HQ.out ⟨w2.heap.size, 0, none⟩ 1 1 [.slice (some ⟨g, 0, none⟩) 1 1] rfl rfl HCN.out HONE.out hmx (by omega) HBS.out ?c0))
      case c0 =>
        intro v' w3 hown hgrow hnil
        obtain ⟨A2, cap2, rfl⟩ := owns_slice hown
        have hk23 : Keeps (fun k => (Value.slice A1 i cap1).ownBlock = some k) (w2.alloc (.cells #[.slice (some ⟨g, 0, none⟩) 1 1] 23)) w3 := (Keeps.refl _ _).grown hgrow (fun g hg _ => hg)
        have HE3 := Lib.hid (show EachAt w3 B (.slice A2 (i + 1) cap2) (l.take (i + 1)) from by
          rw [HTS.out]
          refine EachAt.step HG1.out (v := .slice A1 i cap1) ?_ HG3.out HGG.out hk23 ?_
          · rw [HLN.out]; exact HQ.out
          · rw [HLN.out]; exact hown)
        have hlq := HQ.out.lt
        have HK3 := Lib.hid (show Keeps (fun _ => False) w w3 from (HK2.out.alloc (.cells #[.slice (some ⟨g, 0, none⟩) 1 1] 23)).trans hk23 (fun b hb h => by
          have := (hlq b h).1
          have := HBE.out
          omega))
        clear hown hgrow hnil hk23 hlq
        go_wp2_with fail
        go_roundw
        case rel => exact ⟨i + 1, by omega, by go_num, HE3.out, HK3.out⟩
        case measure => simp [intOf]; omega
    · obtain rfl : i = n := by omega
      have HEE := Lib.hid (show EachAt wr B _ l from by
        have := HE.out
        rwa [List.take_of_length_le (by rw [HL.out]; exact Nat.le_refl _)] at this)
      go_wp2_with fail
      go_ret
      exact ⟨_, rfl, HEE.out, HK.out⟩
end Go.Proofs.YtgmbladcoikffaaGreatDoor

/- EvalOf -/
/- The walk of the reference's EvalOf. Printed by gen/each.py. -/
namespace Go.Proofs.YtgmbladcoikffaaGreatDoor
open Go.RowKit Go.Deep
set_option linter.unusedVariables false
set_option linter.unusedSimpArgs false

theorem RunIs.form {w w' : World} {sb q tb hb : Nat} {s : Cp.St} {wt ht : Nat → Bool} {many : Int} {r : Ir.REnd} {e : Ending} (h : RunIs w sb q tb hb s wt ht many r e w') : ∃ t a f, e = .returned (.agg (rendC t a f)) := by
  cases r with
  | trap a => exact ⟨_, _, _, h.1⟩
  | leave pc X m => exact ⟨_, _, _, h.1⟩
  | fell => exact ⟨_, _, _, h.1⟩
theorem RunIs.kept {w w' : World} {sb q tb hb : Nat} {s : Cp.St} {wt ht : Nat → Bool} {many : Int} {r : Ir.REnd} {e : Ending} (h : RunIs w sb q tb hb s wt ht many r e w') : Keeps (fun b => b = sb ∨ b = q) w w' := by
  cases r with
  | trap a => exact h.2.mono (fun _ _ h => h.elim)
  | leave pc X m => exact h.2.2.2
  | fell => exact h.2.mono (fun _ _ h => h.elim)
theorem RunIs.keepEnd {w0 w w' : World} {sb q tb hb eb : Nat} {s : Cp.St} {wt ht : Nat → Bool} {many : Int} {r : Ir.REnd} {e : Ending} {t f : Bool} {a : Int} (h : RunIs w sb q tb hb s wt ht many r e w') (E : REndBox w eb t a f) (he : w0.heap.size = eb) (hs : sb < w0.heap.size ∧ q < w0.heap.size ∧ tb < w0.heap.size ∧ hb < w0.heap.size) : REndBox w' eb t a f :=
  E.keep h.kept (fun e => by rcases e with e | e <;> omega)
/-- the same, from an earlier world -/
theorem RunIs.from {w0 w w' : World} {sb q tb hb : Nat} {s : Cp.St} {wt ht : Nat → Bool} {many : Int} {r : Ir.REnd} {e : Ending} (h : RunIs w sb q tb hb s wt ht many r e w') (k : Keeps (fun _ => False) w0 w) : RunIs w0 sb q tb hb s wt ht many r e w' := by
  cases r with
  | trap a => exact ⟨h.1, k.trans h.2 (fun _ _ h => h)⟩
  | leave pc X m => exact ⟨h.1, h.2.1, h.2.2.1, (k.mono (T := fun b => b = sb ∨ b = q) (fun _ _ h => h.elim)).trans h.2.2.2 (fun _ _ h => h)⟩
  | fell => exact ⟨h.1, k.trans h.2 (fun _ _ h => h)⟩
/-- the same, behind what turns a new block alone -/
theorem RunIs.behind {w w' w'' : World} {sb q tb hb eb : Nat} {s : Cp.St} {wt ht : Nat → Bool} {many : Int} {r : Ir.REnd} {e : Ending} (h : RunIs w sb q tb hb s wt ht many r e w') (k : Keeps (· = eb) w' w'') (hs : sb ≠ eb ∧ q ≠ eb ∧ tb ≠ eb ∧ hb ≠ eb) (he : w.heap.size = eb) (hw : ∀ wb' m, RefAt w' q wb' tb hb m wt ht → wb' ≠ eb) : RunIs w sb q tb hb s wt ht many r e w'' := by
  cases r with
  | trap a => exact ⟨h.1, h.2.trans k (fun b hb e => by have e : b = eb := e; omega)⟩
  | leave pc X m =>
    obtain ⟨h1, h2, ⟨wb', h3⟩, h4⟩ := h
    exact ⟨h1, StAt.keep h2 k (fun e => hs.1 e), ⟨wb', h3.keep k ⟨fun e => hs.2.1 e, fun e => hw _ _ h3 e, fun e => hs.2.2.1 e, fun e => hs.2.2.2 e⟩⟩, h4.trans k (fun b hb e => by have e : b = eb := e; omega)⟩
  | fell => exact ⟨h.1, h.2.trans k (fun b hb e => by have e : b = eb := e; omega)⟩
set_option maxHeartbeats 4000000 in
set_option maxRecDepth 100000 in
theorem evalOf_any (l : List Ir.Op) (many : Int) (A : Option Addr) (n cap sb q wb tb hb : Nat) (m : Nat → Int) (wt ht : Nat → Bool) (W : Int → Bool) (s : Cp.St) (w : World) (V : OpsAt w A n cap l) (hc : cap ≤ 9223372036854775807) (hn : n < 1000000) (hin : ∀ o ∈ l, Ir.OpIn o)
    (hS : StAt w sb s) (hRng : Cp.Rng s) (R : RefAt w q wb tb hb m wt ht) (hW : ∀ p : Nat, p < 64 → wt p = W p) (h0 : s.R 0 = 0) (hmany : 0 ≤ many ∧ many ≤ 24) :
    Calls Tryz.prog 20 #[.slice A n cap, .int .i64 many, .pointer (some ⟨sb, 0, none⟩), .pointer (some ⟨q, 0, none⟩)] w (RunIs w sb q tb hb s wt ht many (Ir.runRows W (Ir.mc0 s).X m (l.map fun o => [o]))) := by
  obtain ⟨i0, hinf, hz0, hz1, hz2⟩ := info_parts Tryz.info_row
  have HV := Lib.hid V
  have HL := Lib.hid V.len
  have hnc := V.le
  have HRO := Lib.hid (fun (w' : World) (kk : Keeps (fun _ => False) w w') A' c' (hc' : c' ≤ 9223372036854775807) (hr : RowsAt w' A' l.length c' (l.map fun o => [o])) => runOf_any (l.map fun o => [o]) many A' l.length c' sb q wb tb hb m wt ht W s w' hr hc' (fun r hr => by
    obtain ⟨o, ho, rfl⟩ := List.mem_map.1 hr
    exact ⟨fun p hp => by rw [List.mem_singleton] at hp; subst hp; exact hin p ho, by show (1 : Nat) < 1000000; decide⟩) (hS.keep kk (fun h => h)) hRng (R.keep kk ⟨fun h => h, fun h => h, fun h => h, fun h => h⟩) hW h0 hmany)
  have HB0 := Lib.hid (REndBox.new w false 0 false)
  have HK0 := Lib.hid ((Keeps.refl (fun _ => False) w).alloc (.cells (rendC false 0 false) 56))
  have HSL := Lib.hid (show sb < w.heap.size ∧ q < w.heap.size ∧ tb < w.heap.size ∧ hb < w.heap.size from ⟨hS.lt, (Array.getElem?_eq_some_iff.1 R.raw.box).1, R.raw.watch.lt, R.raw.hit.lt⟩)
  obtain ⟨RR, hRR⟩ : ∃ r, Ir.runRows W (Ir.mc0 s).X m (l.map fun o => [o]) = r := ⟨_, rfl⟩
  rw [hRR] at HRO ⊢
  clear V hin hS hRng R hW h0 hRR
  unfold rendC at HB0 HK0
  go_enter Tryz.func20, Tryz.ntmps20
  go_upto_region 1 with fail
  obtain ⟨eb, heb⟩ : ∃ b, w.heap.size = b := ⟨_, rfl⟩
  have HEB1 := Lib.hid (show REndBox (w.alloc (.cells #[.bool false, .int .i64 0, .bool false] 56)) eb false 0 false from by rw [← heb]; exact HB0.out)
  have HEBW := Lib.hid heb
  rw [heb]
  clear heb HB0
  generalize w.alloc _ = w1 at *
  have HKW1 := Lib.hid HK0.out
  have HV1 := Lib.hid (HV.out.quiet HK0.out)
  clear HK0 HV
  have HV := Lib.hid HV1.out
  have HK0 := Lib.hid (Keeps.refl (fun _ => False) w1)
  obtain ⟨B, hB⟩ : ∃ B, w1.heap.size = B := ⟨_, rfl⟩
  have HBE := Lib.hid hB
  clear hB HV1
  go_wp2_with fail
  go_loopw [9, 10] (fun s1 s2 wr => ∃ i : Nat, i ≤ n ∧ s2 = .int .i64 i ∧ EachAt wr B s1 (l.take i) ∧ Keeps (fun _ => False) w1 wr) (fun _ s2 _ => n - (intOf s2).toNat)
  case atStart => exact ⟨0, by omega, rfl, by rw [List.take_zero]; exact EachAt.nil _ _, HK0.out⟩
  case round =>
    obtain ⟨i, hi, rfl, hE, hK⟩ := hrel
    have HE := Lib.hid hE
    have HK := Lib.hid hK
    clear hE hK
    by_cases hlt : i < n
    · obtain ⟨ob, oo, rfl, e0, e1, e2, e3, e4, e5⟩ := (HV.out.quiet HK.out).get hlt
      have hil : i < l.length := by rw [HL.out]; exact hlt
      have HTS := Lib.hid (Ir.take_succ_getD l i hil)
      have hlen : (l.take i).length = i := by rw [List.length_take, Nat.min_eq_left (Nat.le_of_lt hil)]
      obtain ⟨op, hop⟩ : ∃ op, l.getD i Ir.nop = op := ⟨_, rfl⟩
      rw [hop] at e0 e1 e2 e3 e4 e5 HTS
      clear hop
      obtain ⟨ok, od, oa, ob2, oim, oat⟩ := op
      simp only at e0 e1 e2 e3 e4 e5
      have hi63 : (i : Int) < n := by omega
      obtain ⟨gs, hg1, hg2, hg3⟩ := HE.out
      rw [hlen] at hg2
      obtain ⟨A1, cap1, rfl⟩ := owns_slice hg2
      have hbn := blk_alloc_new wr (.cells #[.string ok, .int .i64 od, .int .i64 oa, .int .i64 ob2, .int .u32 oim, .int .i64 oat] 85)
      have hka := (Keeps.refl (fun _ => False) wr).alloc (.cells #[.string ok, .int .i64 od, .int .i64 oa, .int .i64 ob2, .int .u32 oim, .int .i64 oat] 85)
      go_upto_region 6 with fail
      obtain ⟨g, hgz⟩ : ∃ g, wr.heap.size = g := ⟨_, rfl⟩
      rw [hgz] at hbn ⊢
      have HGB := Lib.hid (show B ≤ g by
        rw [← hgz, ← HBE.out]
        exact HK.out.size)
      clear hgz
      generalize wr.alloc _ = w2 at *
      have HBN := Lib.hid hbn
      have HKA := Lib.hid hka
      have hg2b := owns_keep hg2 hka (fun _ _ h => h)
      have HG3 := Lib.hid (show ∀ j, j < (l.take i).length → B ≤ gs.getD j 0 ∧ (w2.alloc (.cells #[.slice (some ⟨g, 0, none⟩) 1 1] 23)).heap[gs.getD j 0]? = some (.cells (opC ((l.take i).getD j Ir.nop)) 85 (0, 0)) from fun j hj => by
        have h := hg3 j hj
        have h2 := (hka.block _ (Array.getElem?_eq_some_iff.1 h.2).1 (fun h => h)).trans h.2
        exact ⟨h.1, (blk_alloc_lt _ _ _ (Array.getElem?_eq_some_iff.1 h2).1).trans h2⟩)
      have HG1 := Lib.hid hg1
      have HQ := Lib.hid (show (w2.alloc (.cells #[.slice (some ⟨g, 0, none⟩) 1 1] 23)).ownsRow B 23 1 (.slice A1 i cap1) i (gs.map rowV) from hg2b.alloc _)
      have HGG := Lib.hid (show B ≤ g ∧ (w2.alloc (.cells #[.slice (some ⟨g, 0, none⟩) 1 1] 23)).heap[g]? = some (.cells (opC (⟨ok, od, oa, ob2, oim, oat⟩ : Ir.Op)) 85 (0, 0)) from
        ⟨HGB.out, (blk_alloc_lt _ _ _ (Array.getElem?_eq_some_iff.1 hbn).1).trans hbn⟩)
      have HCN := Lib.hid (fun j u hj => cells_new w2 [.slice (some ⟨g, 0, none⟩) 1 1] 23 j u hj)
      have HONE : Hid (∀ u ∈ [Value.slice (some ⟨g, 0, none⟩) 1 1], u.oneCell' = true) := Lib.hid (by
        intro u hu
        simp only [List.mem_cons, List.not_mem_nil, or_false] at hu
        rw [hu]
        rfl)
      have HBS := Lib.hid (show B ≤ (w2.alloc (.cells #[.slice (some ⟨g, 0, none⟩) 1 1] 23)).heap.size by
        rw [nblk_alloc]
        have := hka.size
        have := HK.out.size
        have := HBE.out
        omega)
      have hmx : i + 1 ≤ maxLen := by unfold maxLen; omega
      have HLL := Lib.hid (show (gs.map rowV).length = i * 1 by rw [List.length_map, hg1, hlen, Nat.mul_one])
      have HLN := Lib.hid hlen
      have HK2 := Lib.hid (HK.out.trans hka (fun _ _ h => h))
      clear hg1 hg2 hg3 hg2b hka hbn HE hlen e0 e1 e2 e3 e4 e5
      go_wp2_with (at_builtin; go_loud (refine wpList_append_own _ rfl _ _ 69 rfl B 23 i0 _ 1 24 Tryz.underlying69 hinf hz0 hz1 hz2 rfl (by decide) (.slice A1 i cap1) i (gs.map rowV) rfl HQ.out ⟨w2.heap.size, 0, none⟩ 1 1 [.slice (some ⟨g, 0, none⟩) 1 1] rfl rfl HCN.out HONE.out hmx (by omega) HBS.out ?c0))
      case c0 =>
        intro v' w3 hown hgrow hnil
        obtain ⟨A2, cap2, rfl⟩ := owns_slice hown
        have hk23 : Keeps (fun k => (Value.slice A1 i cap1).ownBlock = some k) (w2.alloc (.cells #[.slice (some ⟨g, 0, none⟩) 1 1] 23)) w3 := (Keeps.refl _ _).grown hgrow (fun g hg _ => hg)
        have HE3 := Lib.hid (show EachAt w3 B (.slice A2 (i + 1) cap2) (l.take (i + 1)) from by
          rw [HTS.out]
          refine EachAt.step HG1.out (v := .slice A1 i cap1) ?_ HG3.out HGG.out hk23 ?_
          · rw [HLN.out]; exact HQ.out
          · rw [HLN.out]; exact hown)
        have hlq := HQ.out.lt
        have HK3 := Lib.hid (show Keeps (fun _ => False) w1 w3 from (HK2.out.alloc (.cells #[.slice (some ⟨g, 0, none⟩) 1 1] 23)).trans hk23 (fun b hb h => by
          have := (hlq b h).1
          have := HBE.out
          omega))
        clear hown hgrow hnil hk23 hlq
        go_wp2_with fail
        go_roundw
        case rel => exact ⟨i + 1, by omega, by go_num, HE3.out, HK3.out⟩
        case measure => simp [intOf]; omega
    · obtain rfl : i = n := by omega
      have HEE := Lib.hid (show EachAt wr B _ l from by
        have := HE.out
        rwa [List.take_of_length_le (by rw [HL.out]; exact Nat.le_refl _)] at this)
      obtain ⟨A5, c5, hv5, hc5, hr5⟩ := HEE.out.rows
      have HR5 := Lib.hid hr5
      have HKW := Lib.hid (HKW1.out.trans HK.out (fun _ _ h => h))
      have HE5 := Lib.hid (HEB1.out.keep HK.out (fun h => h))
      clear hr5
      subst hv5
      go_wp2_with fail
      refine (HRO.out _ HKW.out A5 c5 hc5 HR5.out).mono ?_
      intro e w6 h6
      obtain ⟨t6, a6, f6, rfl⟩ := RunIs.form h6
      have HE6 := Lib.hid (h6.keepEnd HE5.out HEBW.out HSL.out)
      have H6 := Lib.hid h6
      clear h6
      obtain ⟨f0, f1, f2⟩ := HE6.out.frozen
      obtain ⟨g0, g1, g2⟩ := HE6.out.cells
      obtain ⟨hq1, hq2⟩ := HE6.out.put (t' := t6) (a' := a6) (f' := f6)
      have HP := Lib.hid hq1
      have HPK := Lib.hid hq2
      clear hq1 hq2
      unfold rendC
      go_wp2_with fail
      refine bodyPost_ret (results_cell_row rfl _ _ eb 56 (rendC t6 a6 f6) (0, 0) _ rfl HP.out.blk Tryz.underlying56 rfl size_rend) rfl ?_
      refine (H6.out.from HKW.out).behind HPK.out (by have := HSL.out; have := HEBW.out; omega) HEBW.out (fun wb' m hR e => ?_)
      obtain ⟨c, hc, _⟩ := hR.raw.words
      rw [e, HE6.out.blk] at hc
      injection hc with hc
      injection hc with _ hc
      exact absurd hc (by decide)
end Go.Proofs.YtgmbladcoikffaaGreatDoor

/- CodeFault -/
/- The walks of the reference's Bare, Fine, CodeFault. -/
namespace Go.Proofs.YtgmbladcoikffaaGreatDoor
open Go.RowKit Go.Deep
set_option linter.unusedVariables false
set_option linter.unusedSimpArgs false

theorem size_fault : (Tryz.prog.info? 37).map (·.size) = some 2 := by kernel_rfl
/-- a fault's value -/
def faultV (f : Nat × Int) : Value := .agg #[.int .i64 f.1, .int .i64 f.2]
/-- a fault in a block of its own -/
structure FaultBox (w : World) (x : Nat) (c : Nat) (a : Int) : Prop where
  blk : w.heap[x]? = some (.cells #[.int .i64 c, .int .i64 a] 37 (0, 0))
theorem FaultBox.lt {w : World} {x c : Nat} {a : Int} (h : FaultBox w x c a) : x < w.heap.size := (Array.getElem?_eq_some_iff.1 h.blk).1
theorem FaultBox.keep {S : Nat → Prop} {w w' : World} {x c : Nat} {a : Int} (h : FaultBox w x c a) (k : Keeps S w w') (hs : ¬ S x) : FaultBox w' x c a := ⟨(k.block x h.lt hs).trans h.blk⟩
theorem FaultBox.cells {w : World} {x c : Nat} {a : Int} (h : FaultBox w x c a) :
    w.cell? ⟨x, 0, none⟩ = some (.int .i64 c) ∧ w.cell? ⟨x, 1, none⟩ = some (.int .i64 a) ∧ w.frozen? ⟨x, 0, none⟩ = false ∧ w.frozen? ⟨x, 1, none⟩ = false := by
  refine ⟨?_, ?_, frozen_of_block h.blk 0, frozen_of_block h.blk 1⟩ <;> (unfold World.cell?; rw [h.blk]; rfl)
theorem FaultBox.new (w : World) (c : Nat) (a : Int) : FaultBox (w.alloc (.cells #[.int .i64 c, .int .i64 a] 37)) w.heap.size c a := ⟨blk_alloc_new _ _⟩
theorem FaultBox.put {w : World} {x c c' : Nat} {a a' : Int} (h : FaultBox w x c a) :
    FaultBox ((w.setCell ⟨x, 0, none⟩ (.int .i64 c')).setCell ⟨x, 1, none⟩ (.int .i64 a')) x c' a' ∧ Keeps (· = x) w ((w.setCell ⟨x, 0, none⟩ (.int .i64 c')).setCell ⟨x, 1, none⟩ (.int .i64 a')) := by
  refine ⟨⟨?_⟩, Keeps.trans (Keeps.one _ _ _ _) (Keeps.one _ _ _ _) (fun _ _ h => h)⟩
  have h1 := set_block (set_block h.blk 0 (.int .i64 c')) 1 (.int .i64 a')
  simpa using h1
set_option maxRecDepth 100000 in
theorem faultBare_any (c : Nat) (w : World) :
    Calls Tryz.prog 17 #[.int .i64 c] w fun e w' => e = .returned (faultV (c, -1)) ∧ Keeps (fun _ => False) w w' := by
  have HB := Lib.hid (FaultBox.new w c (-1))
  have HK := Lib.hid ((Keeps.refl (fun _ => False) w).alloc (.cells #[.int .i64 c, .int .i64 (-1)] 37))
  go_enter Tryz.func17, Tryz.ntmps17
  go_wp2_with fail
  exact bodyPost_ret (results_cell_row rfl _ _ w.heap.size 37 #[.int .i64 c, .int .i64 (-1)] (0, 0) _ rfl HB.out.blk Tryz.underlying37 rfl size_fault) rfl ⟨rfl, HK.out⟩
set_option maxRecDepth 100000 in
theorem faultFine_any (w : World) :
    Calls Tryz.prog 44 #[] w fun e w' => e = .returned (faultV (0, -1)) ∧ Keeps (fun _ => False) w w' := by
  have HB := Lib.hid (FaultBox.new w 0 (-1))
  have HK := Lib.hid ((Keeps.refl (fun _ => False) w).alloc (.cells #[.int .i64 0, .int .i64 (-1)] 37))
  go_enter Tryz.func44, Tryz.ntmps44
  go_wp2_with fail
  exact bodyPost_ret (results_cell_row rfl _ _ w.heap.size 37 #[.int .i64 0, .int .i64 (-1)] (0, 0) _ rfl HB.out.blk Tryz.underlying37 rfl size_fault) rfl ⟨rfl, HK.out⟩
theorem errAt_le (many : Int) (l : List Ir.Op) (i : Nat) : Ir.errAt many l i ≤ 10 := by
  have h1 : ∀ o, Ir.opErr o many ≤ 10 := fun o => by unfold Ir.opErr; split <;> (try split) <;> (try split) <;> omega
  unfold Ir.errAt
  split <;> (try split) <;> first | exact h1 _ | omega
set_option maxHeartbeats 8000000 in
set_option maxRecDepth 100000 in
theorem codeFault_any (many : Int) (A : Option Addr) (n cap : Nat) (l : List Ir.Op) (w : World) (V : OpsAt w A n cap l) (hc : cap ≤ 9223372036854775807) :
    Calls Tryz.prog 11 #[.int .i64 many, .slice A n cap] w fun e w' => e = .returned (faultV (Ir.fault many l)) ∧ Keeps (fun _ => False) w w' := by
  have HV := Lib.hid V
  have HL := Lib.hid V.len
  have hnc := V.le
  have HB0 := Lib.hid (FaultBox.new w 0 0)
  have HK0 := Lib.hid ((Keeps.refl (fun _ => False) w).alloc (.cells #[.int .i64 0, .int .i64 0] 37))
  have HF := Lib.hid (show Ir.fault many l = ((if many < 1 ∨ 24 < many then (2, -1) else if 200 < n then (8, -1) else if 8 < Ir.stores l then (8, -1) else if n = 0 then (3, -1)
      else if Ir.isOut (Ir.kn (l.getD (n - 1) Ir.nop).k) = false then (3, -1)
      else match Ir.firstBad many l with | some i => (Ir.errAt many l i, (i : Int)) | none => (0, -1)) : Nat × Int) by rw [← HL.out]; rfl)
  have HSO := Lib.hid (fun w V => storesOf_any A n cap l w V hc)
  obtain ⟨f, hf⟩ : ∃ f, Ir.fault many l = f := ⟨_, rfl⟩
  rw [hf] at HF ⊢
  clear hf V
  generalize Ir.stores l = st at *
  go_enter Tryz.func11, Tryz.ntmps11
  go_upto_region 1 with fail
  obtain ⟨rb, hrb⟩ : ∃ b, w.heap.size = b := ⟨_, rfl⟩
  have HRB := Lib.hid hrb
  rw [hrb] at HB0 ⊢
  clear hrb
  generalize w.alloc _ = w1 at *
  by_cases h1 : many < 1 ∨ 24 < many
  · have HR := Lib.hid (show f = (2, -1) by rw [HF.out, if_pos h1])
    rcases h1 with h1 | h1
    · have t1 : decide (many < 1) = true := decide_eq_true h1
      go_wp2_with fail
      refine (faultBare_any 2 _).mono ?_
      rintro e w9 ⟨rfl, hk9⟩
      have HB9 := Lib.hid (HB0.out.keep hk9 (fun h => h))
      have HK9 := Lib.hid (HK0.out.trans hk9 (fun _ _ h => h))
      clear hk9
      obtain ⟨r0, r1, g0, g1⟩ := HB9.out.cells
      have hp := HB9.out.put (c' := 2) (a' := -1)
      have HP := Lib.hid hp
      clear hp
      unfold faultV
      go_wp2_with fail
      refine bodyPost_ret (results_cell_row rfl _ _ rb 37 #[.int .i64 2, .int .i64 (-1)] (0, 0) _ rfl HP.out.1.blk Tryz.underlying37 rfl size_fault) rfl ⟨by rw [HR.out]; rfl, HK9.out.trans HP.out.2 (fun b hb e => by have e : b = rb := e; have := HRB.out; omega)⟩
    · have t1 : decide (many < 1) = false := decide_eq_false (by omega)
      have t2 : decide (24 < many) = true := decide_eq_true h1
      go_wp2_with fail
      refine (faultBare_any 2 _).mono ?_
      rintro e w9 ⟨rfl, hk9⟩
      have HB9 := Lib.hid (HB0.out.keep hk9 (fun h => h))
      have HK9 := Lib.hid (HK0.out.trans hk9 (fun _ _ h => h))
      clear hk9
      obtain ⟨r0, r1, g0, g1⟩ := HB9.out.cells
      have hp := HB9.out.put (c' := 2) (a' := -1)
      have HP := Lib.hid hp
      clear hp
      unfold faultV
      go_wp2_with fail
      refine bodyPost_ret (results_cell_row rfl _ _ rb 37 #[.int .i64 2, .int .i64 (-1)] (0, 0) _ rfl HP.out.1.blk Tryz.underlying37 rfl size_fault) rfl ⟨by rw [HR.out]; rfl, HK9.out.trans HP.out.2 (fun b hb e => by have e : b = rb := e; have := HRB.out; omega)⟩
  have t1 : decide (many < 1) = false := decide_eq_false (by omega)
  have t2 : decide (24 < many) = false := decide_eq_false (by omega)
  by_cases h2 : 200 < n
  · have HR := Lib.hid (show f = (8, -1) by rw [HF.out, if_neg h1, if_pos h2])
    have t3 : decide (200 < n) = true := decide_eq_true h2
    clear h1
    go_wp2_with fail
    refine (faultBare_any 8 _).mono ?_
    rintro e w9 ⟨rfl, hk9⟩
    have HB9 := Lib.hid (HB0.out.keep hk9 (fun h => h))
    have HK9 := Lib.hid (HK0.out.trans hk9 (fun _ _ h => h))
    clear hk9
    obtain ⟨r0, r1, g0, g1⟩ := HB9.out.cells
    have hp := HB9.out.put (c' := 8) (a' := -1)
    have HP := Lib.hid hp
    clear hp
    unfold faultV
    go_wp2_with fail
    refine bodyPost_ret (results_cell_row rfl _ _ rb 37 #[.int .i64 8, .int .i64 (-1)] (0, 0) _ rfl HP.out.1.blk Tryz.underlying37 rfl size_fault) rfl ⟨by rw [HR.out]; rfl, HK9.out.trans HP.out.2 (fun b hb e => by have e : b = rb := e; have := HRB.out; omega)⟩
  have t3 : decide (200 < n) = false := decide_eq_false h2
  go_wp2_with fail
  refine (HSO.out w1 (HV.out.quiet HK0.out)).mono ?_
  rintro e w2 ⟨rfl, hk2⟩
  have HK2 := Lib.hid (HK0.out.trans hk2 (fun _ _ h => h))
  have HB2 := Lib.hid (HB0.out.keep hk2 (fun h => h))
  clear hk2
  by_cases h3 : 8 < st
  · have HR := Lib.hid (show f = (8, -1) by rw [HF.out, if_neg h1, if_neg h2, if_pos h3])
    have t4 : decide (8 < st) = true := decide_eq_true h3
    clear h1
    go_wp2_with fail
    refine (faultBare_any 8 _).mono ?_
    rintro e w9 ⟨rfl, hk9⟩
    have HB9 := Lib.hid (HB2.out.keep hk9 (fun h => h))
    have HK9 := Lib.hid (HK2.out.trans hk9 (fun _ _ h => h))
    clear hk9
    obtain ⟨r0, r1, g0, g1⟩ := HB9.out.cells
    have hp := HB9.out.put (c' := 8) (a' := -1)
    have HP := Lib.hid hp
    clear hp
    unfold faultV
    go_wp2_with fail
    refine bodyPost_ret (results_cell_row rfl _ _ rb 37 #[.int .i64 8, .int .i64 (-1)] (0, 0) _ rfl HP.out.1.blk Tryz.underlying37 rfl size_fault) rfl ⟨by rw [HR.out]; rfl, HK9.out.trans HP.out.2 (fun b hb e => by have e : b = rb := e; have := HRB.out; omega)⟩
  have t4 : decide (8 < st) = false := decide_eq_false h3
  by_cases h4 : n = 0
  · have HR := Lib.hid (show f = (3, -1) by rw [HF.out, if_neg h1, if_neg h2, if_neg h3, if_pos h4])
    clear h1
    subst h4
    go_wp2_with fail
    refine (faultBare_any 3 _).mono ?_
    rintro e w9 ⟨rfl, hk9⟩
    have HB9 := Lib.hid (HB2.out.keep hk9 (fun h => h))
    have HK9 := Lib.hid (HK2.out.trans hk9 (fun _ _ h => h))
    clear hk9
    obtain ⟨r0, r1, g0, g1⟩ := HB9.out.cells
    have hp := HB9.out.put (c' := 3) (a' := -1)
    have HP := Lib.hid hp
    clear hp
    unfold faultV
    go_wp2_with fail
    refine bodyPost_ret (results_cell_row rfl _ _ rb 37 #[.int .i64 3, .int .i64 (-1)] (0, 0) _ rfl HP.out.1.blk Tryz.underlying37 rfl size_fault) rfl ⟨by rw [HR.out]; rfl, HK9.out.trans HP.out.2 (fun b hb e => by have e : b = rb := e; have := HRB.out; omega)⟩
  have t5 : ((n : Int) == 0) = false := by simpa using h4
  obtain ⟨b, o, rfl, e0, e1, e2, e3, e4, e5⟩ := (HV.out.quiet HK2.out).get (show n - 1 < n by omega)
  have HLX := Lib.hid (show ∃ m, m + 1 = n from ⟨n - 1, by omega⟩)
  obtain ⟨m, hm⟩ := HLX.out
  clear HLX
  have hw1 : IntKind.i64.wrap ((n : Int) - 1) = (m : Int) := by rw [IntKind.wrap_i64]; omega
  have hm1 : (0 : Int) ≤ (m : Int) := by omega
  have hm2 : (m : Int) < (n : Int) := by omega
  have hmm : n - 1 = m := by omega
  rw [hmm] at e0 e1 e2 e3 e4 e5 HF
  have HM := Lib.hid hm
  clear hm hmm
  have HIO := Lib.hid (fun w => isOut_any (l.getD m Ir.nop) w)
  obtain ⟨lo, hlo⟩ : ∃ lo, Ir.isOut (Ir.kn (l.getD m Ir.nop).k) = lo := ⟨_, rfl⟩
  rw [hlo] at HIO HF
  clear hlo
  generalize l.getD m Ir.nop = op0 at *
  go_wp2_with fail
  refine (HIO.out _).mono ?_
  rintro e w3 ⟨rfl, hk3⟩
  have HK3 := Lib.hid (HK2.out.trans hk3 (fun _ _ h => h))
  have HB3 := Lib.hid (HB2.out.keep hk3 (fun h => h))
  clear hk3 e0 e1 e2 e3 e4 e5
  cases lo
  · have HR := Lib.hid (show f = (3, -1) by rw [HF.out, if_neg h1, if_neg h2, if_neg h3, if_neg h4, if_pos rfl])
    clear h1
    go_wp2_with fail
    refine (faultBare_any 3 _).mono ?_
    rintro e w9 ⟨rfl, hk9⟩
    have HB9 := Lib.hid (HB3.out.keep hk9 (fun h => h))
    have HK9 := Lib.hid (HK3.out.trans hk9 (fun _ _ h => h))
    clear hk9
    obtain ⟨r0, r1, g0, g1⟩ := HB9.out.cells
    have hp := HB9.out.put (c' := 3) (a' := -1)
    have HP := Lib.hid hp
    clear hp
    unfold faultV
    go_wp2_with fail
    refine bodyPost_ret (results_cell_row rfl _ _ rb 37 #[.int .i64 3, .int .i64 (-1)] (0, 0) _ rfl HP.out.1.blk Tryz.underlying37 rfl size_fault) rfl ⟨by rw [HR.out]; rfl, HK9.out.trans HP.out.2 (fun b hb e => by have e : b = rb := e; have := HRB.out; omega)⟩
  · have HF2 := Lib.hid (show f = match Ir.firstBad many l with | some i => (Ir.errAt many l i, (i : Int)) | none => (0, -1) by rw [HF.out, if_neg h1, if_neg h2, if_neg h3, if_neg h4, if_neg (by decide)])
    clear h1
    go_wp2_with fail
    go_loopw [6] (fun s6 wr => ∃ i : Nat, i ≤ n ∧ s6 = .int .i64 i ∧ (∀ j, j < i → Ir.errAt many l j = 0) ∧ Keeps (fun _ => False) w3 wr) (fun s6 _ => n - (intOf s6).toNat)
    case atStart => exact ⟨0, by omega, rfl, fun j hj => absurd hj (Nat.not_lt_zero _), Keeps.refl _ _⟩
    case round =>
      obtain ⟨i, hi, rfl, hz, hKi⟩ := hrel
      have HZ := Lib.hid hz
      have HKI := Lib.hid hKi
      clear hz hKi
      by_cases hlt : i < n
      · have HVI := Lib.hid (fun (w' : World) (k : Keeps (fun _ => False) wr w') j (hj : j < n) => (HV.out.quiet ((HK3.out.trans HKI.out (fun _ _ h => h)).trans k (fun _ _ h => h))).get hj)
        have HBAD := Lib.hid (fun (c : Nat) (h : Ir.errAt many l i = c) (h0 : c ≠ 0) => (show f = (c, (i : Int)) by
          rw [HF2.out, Ir.firstBad_at (by rw [HL.out]; exact hlt) (by rw [h]; exact h0) HZ.out]
          show (Ir.errAt many l i, (i : Int)) = _
          rw [h]))
        have HER := Lib.hid (show Ir.errAt many l i = if Ir.opErr (l.getD i Ir.nop) many ≠ 0 then Ir.opErr (l.getD i Ir.nop) many else if (0 < i ∧ (l.getD i Ir.nop).at_ < (l.getD (i - 1) Ir.nop).at_) ∨ (Ir.isOut (Ir.kn (l.getD i Ir.nop).k) = true ∧ i + 1 < n) then 3 else 0 by rw [← HL.out]; rfl)
        obtain ⟨b2, o2, hbb, e0, e1, e2, e3, e4, e5⟩ := HVI.out _ (Keeps.refl _ _) i hlt
        obtain ⟨rfl, rfl⟩ : b = b2 ∧ o = o2 := by injection hbb with h; injection h with h1 h2; exact ⟨h1, h2⟩
        clear hbb
        have HVG := Lib.hid (fun (w' : World) (k : Keeps (fun _ => False) wr w') j (hj : j < n) => (show OpLies w' b (o + j * 6) (l.getD j Ir.nop) by
          obtain ⟨b2, o2, hbb, hx⟩ := HVI.out w' k j hj
          obtain ⟨rfl, rfl⟩ : b = b2 ∧ o = o2 := by injection hbb with h; injection h with h1 h2; exact ⟨h1, h2⟩
          exact hx))
        have HGI := Lib.hid (fun w' k => HVG.out w' k i hlt)
        obtain ⟨op, hop⟩ : ∃ op, l.getD i Ir.nop = op := ⟨_, rfl⟩
        rw [hop] at e0 e1 e2 e3 e4 e5 HER HGI
        clear hop
        have HOE := Lib.hid (fun w => opError_any op many w)
        have HIO := Lib.hid (fun w => isOut_any op w)
        obtain ⟨oe, hoe⟩ : ∃ oe, Ir.opErr op many = oe := ⟨_, rfl⟩
        obtain ⟨io, hio⟩ : ∃ io, Ir.isOut (Ir.kn op.k) = io := ⟨_, rfl⟩
        rw [hoe] at HOE HER
        rw [hio] at HIO HER
        clear hoe hio
        go_wp2_with fail
        refine (HOE.out _).mono ?_
        rintro e w5 ⟨rfl, hk5⟩
        obtain ⟨f0, f1, f2, f3, f4, f5⟩ := HGI.out w5 hk5
        clear e0 e1 e2 e3 e4 e5
        go_wp2_with fail
        refine (HIO.out _).mono ?_
        rintro e w6 ⟨rfl, hk6⟩
        have HK6 := Lib.hid (hk5.trans hk6 (fun _ _ h => h))
        have HKK := Lib.hid (HKI.out.trans HK6.out (fun _ _ h => h))
        have HKT := Lib.hid (HK3.out.trans HKK.out (fun _ _ h => h))
        have HB6 := Lib.hid (HB3.out.keep HKK.out (fun h => h))
        clear f0 f1 f2 f3 f4 f5 hk5 hk6
        obtain ⟨r0, r1, g0, g1⟩ := HB6.out.cells
        by_cases hoe : oe = 0
        · subst hoe
          have HER2 := Lib.hid (show Ir.errAt many l i = if (0 < i ∧ op.at_ < (l.getD (i - 1) Ir.nop).at_) ∨ (io = true ∧ i + 1 < n) then 3 else 0 by rw [HER.out, if_neg (by decide)])
          have HNQ2 := Lib.hid (fun (hq : ¬ (io = true ∧ i + 1 < n)) => (show Ir.errAt many l i = if 0 < i ∧ op.at_ < (l.getD (i - 1) Ir.nop).at_ then 3 else 0 by
            rw [HER2.out]
            by_cases h : 0 < i ∧ op.at_ < (l.getD (i - 1) Ir.nop).at_
            · rw [if_pos (.inl h), if_pos h]
            · rw [if_neg (fun h2 => h2.elim h hq), if_neg h]))
          by_cases hq : io = true ∧ i + 1 < n
          · obtain ⟨rfl, hi1⟩ := hq
            have t6 : decide ((i : Int) + 1 < (n : Int)) = true := decide_eq_true (by omega)
            have HR := Lib.hid (HBAD.out 3 (by rw [HER2.out, if_pos (.inr ⟨rfl, hi1⟩)]) (by decide))
            clear hi1
            have hp := HB6.out.put (c' := 3) (a' := i)
            have HP := Lib.hid hp
            clear hp
            go_wp2_with fail
            refine bodyPost_ret (results_cell_row rfl _ _ rb 37 #[.int .i64 (3 : Nat), .int .i64 i] (0, 0) _ rfl HP.out.1.blk Tryz.underlying37 rfl size_fault) rfl ⟨by rw [HR.out]; rfl, HKT.out.trans HP.out.2 (fun b hb e => by have e : b = rb := e; have := HRB.out; omega)⟩
          · have HER3 := Lib.hid (HNQ2.out hq)
            go_upto_region 17 with fail
            go_cut [66] (fun s66 wx => s66 = .bool false ∧ wx = w6)
            case first =>
              cases io
              · go_wp2_with fail
                go_meet
                exact ⟨rfl, rfl⟩
              · have t6 : decide ((i : Int) + 1 < (n : Int)) = false := decide_eq_false (fun h => hq ⟨rfl, by omega⟩)
                clear hq
                go_wp2_with fail
                go_meet
                exact ⟨rfl, rfl⟩
            case rest =>
              obtain ⟨rfl, rfl⟩ := hcut
              by_cases hi0 : i = 0
              · have t8 : decide (0 < i) = false := decide_eq_false (by omega)
                have HNX := Lib.hid (show Ir.errAt many l i = 0 by rw [HER3.out, if_neg (fun h => by omega)])
                clear hi0 hq
                go_wp2_with fail
                go_roundw
                case rel => exact ⟨i + 1, by omega, by go_num, fun j hj => by
                  by_cases e : j = i
                  · subst e; exact HNX.out
                  · exact HZ.out j (by omega), HKK.out⟩
                case measure => simp [intOf]; omega
              · have t8 : decide (0 < i) = true := decide_eq_true (by omega)
                obtain ⟨p, hp1⟩ : ∃ p, i = p + 1 := ⟨i - 1, by omega⟩
                have HG0 := HGI.out wc HK6.out
                have HG1 := HVG.out wc HK6.out p (by omega)
                have hpp : i - 1 = p := by omega
                rw [hpp] at HER3
                have hw2 : IntKind.i64.wrap ((i : Int) - 1) = (p : Int) := by rw [IntKind.wrap_i64]; omega
                have hp2 : (0 : Int) ≤ (p : Int) := by omega
                have hp3 : (p : Int) < (n : Int) := by omega
                have hl0 : (0 : Int) ≤ (i : Int) := by omega
                have hl1 : (i : Int) < (n : Int) := by omega
                have a5 := HG0.v5
                have b5 := HG1.v5
                generalize l.getD p Ir.nop = op1 at *
                generalize op1.at_ = y1 at *
                generalize op.at_ = y0 at *
                have HPI := Lib.hid hp1
                clear hp1 hpp HG0 HG1 hq
                have hi00 : 0 < i := by omega
                clear hi0
                by_cases hlt2 : y0 < y1
                · have t9 : decide (y0 < y1) = true := decide_eq_true hlt2
                  go_upto_region 20 with fail
                  go_quiet (fail)
                  generalize hwd : wc.drewN _ = wd
                  have hkd : Keeps (fun _ => False) wc wd := by rw [← hwd]; exact Keeps.of_drewN _ _ _
                  clear hwd
                  have HKKd := Lib.hid (HKK.out.trans hkd (fun _ _ h => h))
                  have HKTd := Lib.hid (HKT.out.trans hkd (fun _ _ h => h))
                  have HBd := Lib.hid (HB6.out.keep hkd (fun h => h))
                  clear hkd a5 b5 r0 r1 g0 g1
                  obtain ⟨r0, r1, g0, g1⟩ := HBd.out.cells
                  have HR := Lib.hid (HBAD.out 3 (by rw [HER3.out, if_pos ⟨by omega, hlt2⟩]) (by decide))
                  clear hlt2
                  have hp := HBd.out.put (c' := 3) (a' := i)
                  have HP := Lib.hid hp
                  clear hp
                  go_wp2_with fail
                  refine bodyPost_ret (results_cell_row rfl _ _ rb 37 #[.int .i64 (3 : Nat), .int .i64 i] (0, 0) _ rfl HP.out.1.blk Tryz.underlying37 rfl size_fault) rfl ⟨by rw [HR.out]; rfl, HKTd.out.trans HP.out.2 (fun b hb e => by have e : b = rb := e; have := HRB.out; omega)⟩
                · have t9 : decide (y0 < y1) = false := decide_eq_false hlt2
                  go_upto_region 20 with fail
                  go_quiet (fail)
                  generalize hwd : wc.drewN _ = wd
                  have hkd : Keeps (fun _ => False) wc wd := by rw [← hwd]; exact Keeps.of_drewN _ _ _
                  clear hwd
                  have HKKd := Lib.hid (HKK.out.trans hkd (fun _ _ h => h))
                  have HKTd := Lib.hid (HKT.out.trans hkd (fun _ _ h => h))
                  have HBd := Lib.hid (HB6.out.keep hkd (fun h => h))
                  clear hkd a5 b5 r0 r1 g0 g1
                  have HNX := Lib.hid (show Ir.errAt many l i = 0 by rw [HER3.out, if_neg (fun h => hlt2 h.2)])
                  clear hlt2
                  go_wp2_with fail
                  go_roundw
                  case rel => exact ⟨i + 1, by omega, by go_num, fun j hj => by
                    by_cases e : j = i
                    · subst e; exact HNX.out
                    · exact HZ.out j (by omega), HKKd.out⟩
                  case measure => simp [intOf]; omega
        · have t6 : ((oe : Int) == 0) = false := by simpa using hoe
          have t7 : decide (0 < oe) = true := decide_eq_true (by omega)
          have HR := Lib.hid (HBAD.out oe (by rw [HER.out, if_pos hoe]) hoe)
          clear hoe
          have hp := HB6.out.put (c' := oe) (a' := i)
          have HP := Lib.hid hp
          clear hp
          go_wp2_with fail
          refine bodyPost_ret (results_cell_row rfl _ _ rb 37 #[.int .i64 (oe : Nat), .int .i64 i] (0, 0) _ rfl HP.out.1.blk Tryz.underlying37 rfl size_fault) rfl ⟨by rw [HR.out]; rfl, HKT.out.trans HP.out.2 (fun b hb e => by have e : b = rb := e; have := HRB.out; omega)⟩
      · obtain rfl : i = n := by omega
        have HR := Lib.hid (show f = (0, -1) by rw [HF2.out, Ir.firstBad_none (fun j hj => HZ.out j (by have := HL.out; omega))])
        have HKT := Lib.hid (HK3.out.trans HKI.out (fun _ _ h => h))
        have HB6 := Lib.hid (HB3.out.keep HKI.out (fun h => h))
        go_wp2_with fail
        refine (faultFine_any _).mono ?_
        rintro e w9 ⟨rfl, hk9⟩
        have HB9 := Lib.hid (HB6.out.keep hk9 (fun h => h))
        have HK9 := Lib.hid (HKT.out.trans hk9 (fun _ _ h => h))
        clear hk9
        obtain ⟨r0, r1, g0, g1⟩ := HB9.out.cells
        have hp := HB9.out.put (c' := 0) (a' := -1)
        have HP := Lib.hid hp
        clear hp
        unfold faultV
        go_wp2_with fail
        refine bodyPost_ret (results_cell_row rfl _ _ rb 37 #[.int .i64 0, .int .i64 (-1)] (0, 0) _ rfl HP.out.1.blk Tryz.underlying37 rfl size_fault) rfl ⟨by rw [HR.out]; rfl, HK9.out.trans HP.out.2 (fun b hb e => by have e : b = rb := e; have := HRB.out; omega)⟩
end Go.Proofs.YtgmbladcoikffaaGreatDoor

/- Coded -/
/- The walks of the law's coded, faulted, model; of Eval without a state. -/
namespace Go.Proofs.YtgmbladcoikffaaGreatDoor
open Go.RowKit Go.Deep
set_option linter.unusedVariables false
set_option linter.unusedSimpArgs false

theorem ErrsAll.toC {w : World} {ea : Nat → Addr} (E : ErrsAll w ea) : ErrsC w ea := ⟨E.cell 2 (by omega) (by omega), E.cell 3 (by omega) (by omega), E.cell 4 (by omega) (by omega), E.cell 8 (by omega) (by omega)⟩
set_option maxHeartbeats 1000000 in
theorem coded_any (c : Nat) (h1 : 1 ≤ c) (h2 : c ≤ 10) (w : World) (ea : Nat → Addr) (E : ErrsAll w ea) :
    Calls Tryz.prog 16 #[errV ea c, .int .i64 c] w fun e w' => e = .returned (.bool true) ∧ Keeps (fun _ => False) w w' := by
  have HC := Lib.hid (code_sent c h1 h2 w ea E)
  unfold errV at HC ⊢
  clear E
  go_enter Tryz.func16, Tryz.ntmps16
  go_wp2_with fail
  refine HC.out.mono ?_
  rintro e w1 ⟨rfl, hk⟩
  have HK := Lib.hid hk
  clear hk
  go_wp2_with fail
  go_ret
  exact ⟨rfl, HK.out⟩
set_option maxHeartbeats 2000000 in
theorem faulted_any (f : Nat × Int) (hf : f.1 = 0 ∨ (1 ≤ f.1 ∧ f.1 ≤ 10)) (v : Value) (w : World) (ea : Nat → Addr) (E : ErrsAll w ea) (F : FaultIs w ea f v) :
    Calls Tryz.prog 13 #[v, faultV f] w fun e w' => e = .returned (.bool true) ∧ Keeps (fun _ => False) w w' := by
  obtain ⟨c, a⟩ := f
  have HB := Lib.hid (FaultBox.new w c a)
  have HK0 := Lib.hid ((Keeps.refl (fun _ => False) w).alloc (.cells #[.int .i64 c, .int .i64 a] 37))
  have HE := Lib.hid E
  clear E
  unfold faultV
  dsimp only
  simp only at hf F
  rcases F with ⟨h0, rfl⟩ | ⟨h0, h1, rfl⟩ | ⟨h0, h1, b, rfl, hb0, hb1⟩
  · obtain rfl : c = 0 := h0
    go_enter Tryz.func13, Tryz.ntmps13
    go_upto_region 1 with fail
    obtain ⟨c0, c1, _, _⟩ := HB.out.cells
    have HK1 := Lib.hid HK0.out
    generalize w.alloc _ = w1 at *
    generalize w.heap.size = x at *
    go_wp2_with fail
    refine (code_nil _).mono ?_
    rintro e w2 ⟨rfl, rfl⟩
    go_wp2_with fail
    go_ret
    exact ⟨rfl, HK1.out⟩
  · have h0 : c ≠ 0 := h0
    have h1 : a = -1 := h1
    subst h1
    have hc1 : 1 ≤ c := by omega
    have hc2 : c ≤ 10 := by omega
    have t0 : ((c : Int) == 0) = false := by simp; omega
    have HC := Lib.hid (fun w' (k : Keeps (fun _ => False) w w') => code_sent c hc1 hc2 w' ea (HE.out.quiet k))
    unfold errV at HC ⊢
    clear hf h0 hc1 hc2
    go_enter Tryz.func13, Tryz.ntmps13
    go_upto_region 1 with fail
    have HC1 := Lib.hid (HC.out _ HK0.out)
    have HB1 := Lib.hid HB.out
    have HK1 := Lib.hid HK0.out
    clear HC HB HK0
    generalize w.alloc _ = w1 at *
    obtain ⟨x, hx⟩ : ∃ x, w.heap.size = x := ⟨_, rfl⟩
    rw [hx] at HB1 ⊢
    clear hx
    go_wp2_with fail
    refine HC1.out.mono ?_
    rintro e w2 ⟨rfl, hk⟩
    obtain ⟨c0, c1, _, _⟩ := (HB1.out.keep hk (fun h => h)).cells
    have HK2 := Lib.hid (HK1.out.trans hk (fun _ _ h => h))
    clear hk
    go_wp2_with fail
    go_ret
    exact ⟨rfl, HK2.out⟩
  · have h0 : c ≠ 0 := h0
    have hc1 : 1 ≤ c := by omega
    have hc2 : c ≤ 10 := by omega
    have t0 : ((c : Int) == 0) = false := by simp; omega
    have HC := Lib.hid (fun w' (k : Keeps (fun _ => False) w w') => code_fault c hc1 hc2 b a w' ea (HE.out.quiet k) (k.cell' hb0 (fun h => h)) (k.cell' hb1 (fun h => h)))
    clear hf h0 h1 hc1 hc2 hb0 hb1
    go_enter Tryz.func13, Tryz.ntmps13
    go_upto_region 1 with fail
    have HC1 := Lib.hid (HC.out _ HK0.out)
    have HB1 := Lib.hid HB.out
    have HK1 := Lib.hid HK0.out
    clear HC HB HK0
    generalize w.alloc _ = w1 at *
    obtain ⟨x, hx⟩ : ∃ x, w.heap.size = x := ⟨_, rfl⟩
    rw [hx] at HB1 ⊢
    clear hx
    go_wp2_with fail
    refine HC1.out.mono ?_
    rintro e w2 ⟨rfl, hk⟩
    obtain ⟨c0, c1, _, _⟩ := (HB1.out.keep hk (fun h => h)).cells
    have HK2 := Lib.hid (HK1.out.trans hk (fun _ _ h => h))
    clear hk
    go_wp2_with fail
    go_ret
    exact ⟨rfl, HK2.out⟩
/-- what model answers -/
def ModelIs (w : World) (n : Nat) (ws : Nat → Int) (page : Int) (e : Ending) (w' : World) : Prop :=
  ∃ q wb tb hb, e = .returned (.pointer (some ⟨q, 0, none⟩)) ∧ RefAt w' q wb tb hb (ramOf (min n 4096) ws) (fun p => watchF page p) (fun _ => false) ∧ (w.heap.size ≤ q ∧ w.heap.size ≤ wb ∧ w.heap.size ≤ tb ∧ w.heap.size ≤ hb) ∧ Keeps (fun _ => False) w w'
set_option maxHeartbeats 2000000 in
set_option maxRecDepth 100000 in
theorem model_any (s : Cp.St) (A : Option Addr) (n cap : Nat) (page : Int) (ws : Nat → Int) (w : World) (hR : Reads w A n cap (fun i => .int .u32 (ws i))) (hc : cap ≤ 9223372036854775807) (hr : ∀ i, i < n → 0 ≤ ws i ∧ ws i < 4294967296) :
    Calls Tryz.prog 19 #[.agg (placeL s A n cap page).toArray] w (ModelIs w n ws page) := by
  have HRD := Lib.hid hR
  have HRR := Lib.hid hr
  have HN := Lib.hid (PlaceAt.new w s A n cap page)
  have HK := Lib.hid ((Keeps.refl (fun _ => False) w).alloc (.cells (placeL s A n cap page).toArray 29))
  clear hR hr
  go_enter Tryz.func19, Tryz.ntmps19
  go_upto_region 1 with fail
  have HP1 := Lib.hid HN.out
  obtain ⟨t43, t44⟩ := HN.out.tail
  have HK1 := Lib.hid HK.out
  clear HN HK
  generalize w.alloc _ = w1 at *
  obtain ⟨x, hx⟩ : ∃ x, w.heap.size = x := ⟨_, rfl⟩
  rw [hx] at t43 t44 HP1 ⊢
  have HX := Lib.hid hx
  clear hx
  go_wp2_with fail
  refine (refNew_any n cap A w1 ws (HRD.out.keep HK1.out (fun _ _ _ h => h)) hc HRR.out).mono ?_
  rintro e w2 ⟨q, wb, tb, hb, rfl, hR2, hnew, hk2⟩
  have HR2 := Lib.hid hR2
  have HNEW := Lib.hid (show w.heap.size ≤ q ∧ w.heap.size ≤ wb ∧ w.heap.size ≤ tb ∧ w.heap.size ≤ hb from by have := HK1.out.size; omega)
  have HK2 := Lib.hid (HK1.out.trans hk2 (fun _ _ h => h))
  have HP2 := Lib.hid (HP1.out.keep hk2 (fun h => h))
  clear hR2 hnew hk2 t43 t44
  obtain ⟨t43, t44⟩ := HP2.out.tail
  by_cases h : 0 ≤ page ∧ page < 64
  · obtain ⟨kp, rfl⟩ := Int.eq_ofNat_of_zero_le h.1
    have hkp : kp < 64 := by omega
    have t1 : decide ((0 : Int) ≤ (kp : Int)) = true := decide_eq_true h.1
    have t2 : decide ((kp : Int) < 64) = true := decide_eq_true h.2
    obtain ⟨h0, h64⟩ := h
    have c1 := cell_at HR2.out.raw.box 1
    have c4 := HR2.out.raw.watch.cell (i := kp) hkp
    have f1 := HR2.out.raw.watch.frozen kp
    have HW := Lib.hid (show RefAt (w2.setCell ⟨tb, kp, none⟩ (.bool true)).drew q wb tb hb (ramOf (min n 4096) ws) (fun p => watchF kp p) (fun _ => false) from
      ⟨((HR2.out.raw.setT kp true).drew).congrT (fun p hp => by
        unfold watchF
        by_cases e : p = kp
        · subst e
          rw [if_pos rfl]
          exact (decide_eq_true ⟨h0, h64, rfl⟩).symm
        · rw [if_neg e]
          exact (decide_eq_false (fun hh => e (by have := hh.2.2; omega))).symm) (fun _ _ => rfl), HR2.out.rng⟩)
    have HKF := Lib.hid (HK2.out.trans (Keeps.one w2 tb kp (.bool true)).drew (fun b hb e => by have e : b = tb := e; have := HNEW.out; omega))
    go_wp2_with fail
    go_still_tail 7, (by kernel_rfl)
    change wpList _ _ _ _ _ w2.drew
    go_wp2
    go_ret
    exact ⟨q, wb, tb, hb, rfl, HW.out, HNEW.out, HKF.out⟩
  · have HW := Lib.hid (show RefAt w2 q wb tb hb (ramOf (min n 4096) ws) (fun p => watchF page p) (fun _ => false) from
      ⟨HR2.out.raw.congrT (fun p hp => by
        unfold watchF
        exact (decide_eq_false (fun hh => h ⟨hh.1, hh.2.1⟩)).symm) (fun _ _ => rfl), HR2.out.rng⟩)
    by_cases h0 : 0 ≤ page
    · have t1 : decide (0 ≤ page) = true := decide_eq_true h0
      have t2 : decide (page < 64) = false := decide_eq_false (by omega)
      clear h
      go_wp2_with fail
      go_ret
      exact ⟨q, wb, tb, hb, rfl, HW.out, HNEW.out, HK2.out⟩
    · have t1 : decide (0 ≤ page) = false := decide_eq_false h0
      clear h
      go_wp2_with fail
      go_ret
      exact ⟨q, wb, tb, hb, rfl, HW.out, HNEW.out, HK2.out⟩
set_option maxHeartbeats 2000000 in
set_option maxRecDepth 100000 in
theorem eval_nil (pc many : Int) (A : Option Addr) (n cap : Nat) (w : World) (ea : Nat → Addr) (E : ErrsAll w ea) :
    Calls Tryz.prog 15 #[.agg #[.int .u32 pc, .int .i64 many, .slice A n cap], .pointer none, .pointer none] w fun e w' => e = .returned (.tuple #[.agg (endC false 0), errV ea 3]) ∧ Keeps (fun _ => False) w w' := by
  have HE := Lib.hid E
  have HN := Lib.hid (EvalBox.new w pc many A n cap)
  clear E
  go_enter Tryz.func15, Tryz.ntmps15
  go_upto_region 1 with fail
  have hN := HN.out
  clear HN
  generalize (w.alloc _).alloc _ = w1 at *
  generalize w.heap.size + 1 = rb at *
  obtain ⟨x, hx⟩ : ∃ x, w.heap.size = x := ⟨_, rfl⟩
  rw [hx] at hN ⊢
  clear hx
  have HB1 := Lib.hid hN
  clear hN
  obtain ⟨r0, r1, g0, g1⟩ := HB1.out.res.cells
  have he2 : w1.cell? ⟨2, 0, none⟩ = some (.iface 236 (.pointer (some (ea 3)))) := (HE.out.quiet HB1.out.k).cell 3 (by omega) (by omega)
  have hne : 2 ≠ rb := by
    rintro rfl
    rw [r0] at he2
    cases he2
  go_upto_region 2 with fail
  go_region_held3 (fun w' => Keeps (· = rb) w1 w' ∧ w'.cell? ⟨2, 0, none⟩ = some (.iface 236 (.pointer (some (ea 3)))))
    (first | (refine ⟨?_, ?_⟩ <;> first | ((repeat (first | (with_reducible assumption) | (with_reducible (exact Keeps.refl _ _)) | (with_reducible (apply Keeps.drew)) | (refine Keeps.setCell (S := fun x => x = rb) (a := ⟨rb, _, none⟩) ?_ (fun _ => rfl) _))); done) | (refine Keeps.cell' (S := (· = rb)) (w := w1) ?_ (by assumption) hne; (repeat (first | (with_reducible assumption) | (with_reducible (exact Keeps.refl _ _)) | (with_reducible (apply Keeps.drew)) | (refine Keeps.setCell (S := fun x => x = rb) (a := ⟨rb, _, none⟩) ?_ (fun _ => rfl) _))); done)) | (trace_state; fail))
    (fail)
  rename_i hh
  have HKH := Lib.hid hh.1
  clear hh r0 r1 g0 g1 he2 hne
  obtain ⟨hq1, hq2⟩ := HB1.out.res.put (t' := false) (a' := 0)
  have HP := Lib.hid (hq1.keep ((Keeps.refl (fun _ => False) _).drew) (fun h => h))
  clear hq1 hq2
  go_wp2_with fail
  refine bodyPost_ret (results_end rfl _ _ rb false 0 rfl HP.out) rfl ⟨rfl, ?_⟩
  exact HB1.out.k.trans HKH.out (fun b hb e => by have e : b = rb := e; have := HB1.out.low; omega)
end Go.Proofs.YtgmbladcoikffaaGreatDoor

/- TrapsL -/
/- What a right code's run answers, said plainly: it does not fall out of its end; register 0 stays. -/
namespace Go.Proofs.YtgmbladcoikffaaGreatDoor
open Go.RowKit
set_option linter.unusedVariables false
namespace Ir
theorem ev_no_fell {m : Nat → Int} {W : Int → Bool} : ∀ (l : List Op) (c c' : Mc), l.length ≠ 0 → isOut (kn (l.getD (l.length - 1) nop).k) = true → evGo m W c l ≠ .fell c'
  | [], _, _, h, _ => absurd rfl h
  | o :: r, c, c', _, h => by
    intro he
    unfold evGo at he
    by_cases hr : r = []
    · subst hr
      have ho : isOut (kn o.k) = true := h
      unfold isOut at ho
      simp at ho
      have hl : leaves (kn o.k) = true := by unfold leaves; simp; omega
      rw [if_pos hl] at he
      have hg : ∃ pc, goesTo o (rg c.X o.a) = some pc := by
        unfold goesTo
        rw [if_neg (by omega)]
        rcases ho with ho | ho
        · rw [if_pos ho]; exact ⟨_, rfl⟩
        · rw [if_neg (by omega), if_pos ho]; exact ⟨_, rfl⟩
      obtain ⟨pc, hg⟩ := hg
      rw [hg] at he
      cases he
    · have hp : r.length ≠ 0 := by simpa using hr
      have h2 : isOut (kn (r.getD (r.length - 1) nop).k) = true := by
        have : (o :: r).getD ((o :: r).length - 1) nop = r.getD (r.length - 1) nop := by
          rw [show (o :: r).length - 1 = (r.length - 1) + 1 by rw [List.length_cons]; omega]
          rfl
        rwa [this] at h
      split at he
      · split at he
        · cases he
        · exact ev_no_fell r c c' hp h2 he
      · split at he
        · cases he
        · exact ev_no_fell r _ c' hp h2 he
theorem setX_zero {X : Nat → Int} {d v : Int} (h : 1 ≤ d) : setX X d v 0 = X 0 := by
  unfold setX
  rw [if_neg (by omega)]
theorem doOp_zero {m : Nat → Int} {W : Int → Bool} {c c' : Mc} {o : Op} (hi : OpIn o) (hl : leaves (kn o.k) = false) (h : doOp m W c o = some c') : c'.X 0 = c.X 0 := by
  have hk := hi.k
  unfold leaves at hl
  have hl := of_decide_eq_false hl
  unfold doOp at h
  split at h
  · cases h; exact setX_zero (hi.d (by omega)).1
  split at h
  · cases h; exact setX_zero (hi.d (by omega)).1
  split at h
  · split at h
    · cases h
    · cases h; rfl
  split at h
  · split at h
    · cases h; exact setX_zero (hi.d (by omega)).1
    · cases h
  split at h
  · split at h
    · cases h; rfl
    · cases h
  · cases h; exact setX_zero (hi.d (by omega)).1
theorem ev_zero {m : Nat → Int} {W : Int → Bool} : ∀ (l : List Op) (c c' : Mc) (pc : Int), (∀ o ∈ l, OpIn o) → evGo m W c l = .leave pc c' → c'.X 0 = c.X 0
  | [], _, _, _, _, h => by unfold evGo at h; cases h
  | o :: r, c, c', pc, hi, h => by
    unfold evGo at h
    split at h
    · split at h
      · cases h; rfl
      · exact ev_zero r c c' pc (fun o ho => hi o (List.mem_cons_of_mem _ ho)) h
    · rename_i hl
      split at h
      · cases h
      · rename_i c2 hd
        rw [ev_zero r c2 c' pc (fun o ho => hi o (List.mem_cons_of_mem _ ho)) h]
        exact doOp_zero (hi o (List.mem_cons_self ..)) (by simpa using hl) hd
end Ir
end Go.Proofs.YtgmbladcoikffaaGreatDoor

/- RunOut -/
/- What a run comes to, on both sides alike: an end, a state, memory. -/
namespace Go.Proofs.YtgmbladcoikffaaGreatDoor
open Go.RowKit Go.Deep
set_option linter.unusedVariables false
set_option linter.unusedSimpArgs false

namespace Ir
/-- what is left behind a run -/
structure EO where
  t : Bool
  a : Int
  s : Cp.St
  m : Nat → Int
def eoOf (s : Cp.St) (m : Nat → Int) (many : Int) : REnd → EO
  | .trap a => ⟨true, a, s, m⟩
  | .leave pc X mm => ⟨false, 0, leaveSt s ⟨X, []⟩ pc many, mm⟩
  | .fell => ⟨false, 0, s, m⟩
theorem ev_rng {m : Nat → Int} (hm : ∀ j, j < 16384 → 0 ≤ m j ∧ m j < 256) {W : Int → Bool} : ∀ (l : List Op) (c : Mc) (pc : Int) (c' : Mc), McOk W c → (∀ o ∈ l, OpIn o) → evGo m W c l = .leave pc c' → McOk W c' ∧ (0 ≤ pc ∧ pc < 4294967296)
  | [], c, pc, c', _, _, h => by cases h
  | o :: r, c, pc, c', hc, hl, h => by
    have ho := hl o (List.mem_cons_self ..)
    have hr : ∀ p ∈ r, OpIn p := fun p hp => hl p (List.mem_cons_of_mem _ hp)
    unfold evGo at h
    split at h
    · split at h
      · rename_i pc' hg
        injection h with h1 h2
        subst h1 h2
        refine ⟨hc, ?_⟩
        unfold goesTo at hg
        split at hg
        · split at hg
          · injection hg with hg
            rw [← hg]
            exact ho.imm
          · cases hg
        · split at hg
          · injection hg with hg
            rw [← hg]
            exact ho.imm
          · split at hg
            · injection hg with hg
              rw [← hg]
              exact rg_ok hc ho.a
            · cases hg
      · exact ev_rng hm r c pc c' hc hr h
    · split at h
      · cases h
      · rename_i hnl _ c2 hd
        exact ev_rng hm r c2 pc c' (doOp_ok hm hc ho (by simpa using hnl) hd).1 hr h
theorem leaveSt_rng {s : Cp.St} (h : Cp.Rng s) {X : Nat → Int} {ws : List Wt} (hX : ∀ k, k < 64 → 0 ≤ X k ∧ X k < 4294967296) {pc many : Int} (hp : 0 ≤ pc ∧ pc < 4294967296) (hc : s.count ≤ 1099511627776) (hm : 0 ≤ many ∧ many ≤ 24) : Cp.Rng (leaveSt s ⟨X, ws⟩ pc many) :=
  ⟨fun k hk => hX k (by omega), hX 32 (by omega), hX 33 (by omega), hp, ⟨by show (0 : Int) ≤ (pc + 4) % 4294967296; omega, by show (pc + 4) % 4294967296 < 4294967296; omega⟩, h.status, h.cause, h.epc, h.bad, h.compare, by
    have := h.count
    show 0 ≤ s.count + many ∧ s.count + many < 4611686018427387904
    omega⟩
/-- how a right code ends -/
structure Ends (s : Cp.St) (m : Nat → Int) (W : Int → Bool) (many : Int) (l : List Op) : Prop where
  same : runRows W (mc0 s).X m (l.map fun o => [o]) = resEnd m (evGo m W (mc0 s) l)
  rng : Cp.Rng (eoOf s m many (resEnd m (evGo m W (mc0 s) l))).s
  fell : ∀ c, evGo m W (mc0 s) l ≠ .fell c
theorem ends_of {s : Cp.St} {m : Nat → Int} {W : Int → Bool} {many : Int} {l : List Op} (hs : Cp.Rng s) (hc : s.count ≤ 1099511627776) (hm : ∀ j, j < 16384 → 0 ≤ m j ∧ m j < 256) (hG : Good many l) (hin : ∀ o ∈ l, OpIn o) : Ends s m W many l := by
  have h1 := runRows_one m W l (mc0 s) hin
  refine ⟨h1, ?_, fun c => ev_no_fell l _ c hG.pos hG.last⟩
  cases he : evGo m W (mc0 s) l with
  | trap a => exact hs
  | leave pc c =>
    obtain ⟨h2, h3⟩ := ev_rng hm l _ pc c (mc0_ok W hs) hin he
    exact leaveSt_rng hs h2.X h3 hc (by have := hG.range; omega)
  | fell c => exact hs
end Ir
/-- what Eval leaves, of a right code at a state that is ready -/
theorem eval_out (pc many : Int) (A : Option Addr) (n cap : Nat) (l : List Ir.Op) (sb r pb pw ph : Nat) (s : Cp.St) (m : Nat → Int) (W : Int → Bool) (w : World) (ea : Nat → Addr) (E : ErrsAll w ea) (V : OpsAt w A n cap l) (hc : cap ≤ 9223372036854775807) (hf : (Ir.fault many l).1 = 0) (hok : ∀ o ∈ l, OpOk o)
    (hS : StAt w sb s) (hRng : Cp.Rng s) (R : RamAt w r pb pw ph 16384 m) (hW : WatchAt w pw W) (hpc : 0 ≤ pc ∧ pc < 4294967296) (hr : Ir.ready s pc = true) (hsep : sb ≠ r ∧ sb ≠ pb ∧ sb ≠ pw) (eo : Ir.EO) (heo : Ir.eoOf s m many (Ir.resEnd m (Ir.evGo m W (Ir.mc0 s) l)) = eo) :
    Calls Tryz.prog 15 #[.agg #[.int .u32 pc, .int .i64 many, .slice A n cap], .pointer (some ⟨sb, 0, none⟩), .pointer (some ⟨r, 0, none⟩)] w fun e w' => e = .returned (.tuple #[.agg (endC eo.t eo.a), .nilIface]) ∧ StAt w' sb eo.s ∧ RamAt w' r pb pw ph 16384 eo.m ∧ Keeps (fun b => b = sb ∨ b = pb) w w' := by
  subst heo
  refine (eval_run pc many A n cap l sb r pb pw ph 16384 s m W w ea E.toC E.three V hc hf hok hS hRng R hW hpc hr hsep).mono ?_
  intro e w' h
  cases he : Ir.evGo m W (Ir.mc0 s) l with
  | trap a =>
    rw [he] at h
    exact ⟨h.1, hS.keep h.2 (fun h => h), R.keep h.2 (fun h => h) (fun h => h), h.2.mono (fun _ _ h => h.elim)⟩
  | leave pc c =>
    rw [he] at h
    exact h
  | fell c =>
    rw [he] at h
    exact ⟨h.1, hS.keep h.2 (fun h => h), R.keep h.2 (fun h => h) (fun h => h), h.2.mono (fun _ _ h => h.elim)⟩
/-- what RunOf leaves -/
theorem RunIs.out {w w' : World} {sb q wb tb hb : Nat} {s : Cp.St} {m : Nat → Int} {wt ht : Nat → Bool} {many : Int} {r : Ir.REnd} {e : Ending} (h : RunIs w sb q tb hb s wt ht many r e w') (hS : StAt w sb s) (R : RefAt w q wb tb hb m wt ht) :
    ∃ f wb', e = .returned (.agg (rendC (Ir.eoOf s m many r).t (Ir.eoOf s m many r).a f)) ∧ StAt w' sb (Ir.eoOf s m many r).s ∧ RefAt w' q wb' tb hb (Ir.eoOf s m many r).m wt ht ∧ Keeps (fun b => b = sb ∨ b = q) w w' := by
  cases r with
  | trap a => exact ⟨_, wb, h.1, hS.keep h.2 (fun h => h), R.keep h.2 ⟨fun h => h, fun h => h, fun h => h, fun h => h⟩, h.2.mono (fun _ _ h => h.elim)⟩
  | leave pc X mm =>
    obtain ⟨h1, h2, ⟨wb', h3⟩, h4⟩ := h
    exact ⟨_, wb', h1, h2, h3, h4⟩
  | fell => exact ⟨_, wb, h.1, hS.keep h.2 (fun h => h), R.keep h.2 ⟨fun h => h, fun h => h, fun h => h, fun h => h⟩, h.2.mono (fun _ _ h => h.elim)⟩
/-- Eval of a code or a state that is not right -/
theorem eval_err (pc many : Int) (A : Option Addr) (n cap : Nat) (l : List Ir.Op) (sb : Nat) (ra : Addr) (s : Cp.St) (w : World) (ea : Nat → Addr) (E : ErrsAll w ea) (V : OpsAt w A n cap l) (hc : cap ≤ 9223372036854775807) (hS : StAt w sb s) (hpc : 0 ≤ pc ∧ pc < 4294967296) (f : Nat × Int)
    (hf : (Ir.fault many l).1 ≠ 0 ∧ f = Ir.fault many l ∨ (Ir.fault many l).1 = 0 ∧ Ir.ready s pc = false ∧ f = (9, -1)) :
    Calls Tryz.prog 15 #[.agg #[.int .u32 pc, .int .i64 many, .slice A n cap], .pointer (some ⟨sb, 0, none⟩), .pointer (some ra)] w fun e w' => ∃ ev, e = .returned (.tuple #[.agg (endC false 0), ev]) ∧ FaultIs w' ea f ev ∧ Keeps (fun _ => False) w w' := by
  rcases hf with ⟨h1, rfl⟩ | ⟨h1, h2, rfl⟩
  · refine (eval_bad pc many A n cap l _ _ w ea E.toC V hc h1).mono ?_
    rintro e w' ⟨⟨ev, he, hv⟩, hk⟩
    exact ⟨ev, he, hv, hk⟩
  · refine (eval_unready pc many A n cap l sb ra s w ea E.toC E.three V hc h1 hS hpc h2).mono ?_
    rintro e w' ⟨he, hk⟩
    exact ⟨_, he, .bare rfl (by decide), hk⟩
end Go.Proofs.YtgmbladcoikffaaGreatDoor

/- LongOps40 -/
/- The walk of LongOps at forty. -/
namespace Go.Proofs.YtgmbladcoikffaaGreatDoor
open Go.RowKit Go.Deep
set_option linter.unusedVariables false
set_option linter.unusedSimpArgs false

set_option maxHeartbeats 1000000 in
set_option maxRecDepth 100000 in
theorem longOps40_any (A : Option Addr) (n cap : Nat) (l : List Ir.Op) (w : World) (V : OpsAt w A n cap l) (hc : cap ≤ 9223372036854775807) :
    Calls Tryz.prog 8 #[.slice A n cap, .int .i64 40] w fun e w' => ∃ r : Int, e = .returned (.int .i64 r) ∧ (r = 1 ∨ (r = 0 ∧ n ≤ 201)) ∧ Keeps (fun _ => False) w w' := by
  have HV := Lib.hid V
  have hn := V.le
  clear V
  by_cases h1 : 40 < n ∧ n ≠ 201
  · have t1 : decide ((40 : Int) < (n : Int)) = true := decide_eq_true (by omega)
    have t2 : ((n : Int) != 201) = true := by simp; omega
    clear h1
    go_enter Tryz.func8, Tryz.ntmps8
    go_wp2_with fail
    go_ret
    exact ⟨1, rfl, .inl rfl, Keeps.refl _ _⟩
  · have HN := Lib.hid (show n ≤ 201 by omega)
    by_cases h2 : 40 < n
    all_goals
      first
        | (have t1 : decide ((40 : Int) < (n : Int)) = true := decide_eq_true (by omega); have t2 : ((n : Int) != 201) = false := by (simp; omega))
        | (have t1 : decide ((40 : Int) < (n : Int)) = false := decide_eq_false (by omega))
      clear h1 h2
      go_enter Tryz.func8, Tryz.ntmps8
      go_wp2_with fail
      (try clear t1)
      (try clear t2)
      go_loopw [5] (fun s5 wr => ∃ i : Nat, i ≤ n ∧ s5 = .int .i64 i ∧ Keeps (fun _ => False) w wr) (fun s5 _ => n - (intOf s5).toNat)
      case atStart => exact ⟨0, by omega, rfl, Keeps.refl _ _⟩
      case round =>
        obtain ⟨i, hi, rfl, hK⟩ := hrel
        have HK := Lib.hid hK
        clear hK
        by_cases hlt : i < n
        · obtain ⟨bb, oo, rfl, e0, e1, e2, e3, e4, e5⟩ := (HV.out.quiet HK.out).get hlt
          obtain ⟨op, hop⟩ : ∃ op, l.getD i Ir.nop = op := ⟨_, rfl⟩
          rw [hop] at e0 e1 e2 e3 e4 e5
          clear hop
          cases hk : decide ((20 : Int) < (op.k.size : Int))
          · go_wp2_with fail
            go_roundw
            case rel => exact ⟨i + 1, by omega, by go_num, HK.out⟩
            case measure => simp [intOf]; omega
          · go_wp2_with fail
            go_ret
            exact ⟨1, rfl, .inl rfl, HK.out⟩
        · obtain rfl : i = n := by omega
          go_wp2_with fail
          go_ret
          exact ⟨0, rfl, .inr ⟨rfl, HN.out⟩, HK.out⟩
end Go.Proofs.YtgmbladcoikffaaGreatDoor

/- IrRunsH -/
/- The walk of the law IrRuns. Printed by gen/irruns.py. -/
namespace Go.Proofs.YtgmbladcoikffaaGreatDoor
open Go.RowKit Go.Deep
set_option linter.unusedVariables false
set_option linter.unusedSimpArgs false

/-- a state that a code may begin with, or not -/
def Ir.placedA (s : Cp.St) (pc : Int) (b : Bool) : Cp.St := { Ir.placed s pc with slot := b }
theorem placedA_rng {s : Cp.St} (h : Cp.Rng s) (pc : Int) (hp : 0 ≤ pc ∧ pc < 4294967296) (b : Bool) : Cp.Rng (Ir.placedA s pc b) :=
  ⟨fun k hk => by
    unfold Ir.placedA Ir.placed
    show Cp.W (if k = 0 then 0 else s.R k)
    split
    · exact ⟨by omega, by omega⟩
    · exact h.R k hk, h.hi, h.lo, hp, ⟨by show (0 : Int) ≤ (pc + 4) % 4294967296; omega, by show (pc + 4) % 4294967296 < 4294967296; omega⟩, h.status, h.cause, h.epc, h.bad, h.compare, h.count⟩
theorem placedA_ready (s : Cp.St) (pc : Int) : Ir.ready (Ir.placedA s pc false) pc = true := by
  unfold Ir.ready Ir.placedA Ir.placed
  simp
theorem placedA_unready (s : Cp.St) (pc : Int) : Ir.ready (Ir.placedA s pc true) pc = false := by
  unfold Ir.ready Ir.placedA Ir.placed
  simp
theorem range_keep {w w' : World} {b : Nat} {cs : List Value} (h : w.rangeAt b 0 cs) (k : Keeps (fun _ => False) w w') : w'.rangeAt b 0 cs := fun j v hv => k.cell' (h j v hv) (fun f => f)
theorem words_two (r pb pw ph : Nat) (m : Nat → Int) (w : World) (R : RamAt w r pb pw ph 16384 m) :
    Calls Tryz.prog 22 #[.pointer (some ⟨r, 0, none⟩)] w fun e w' => ∃ g, e = .returned (.slice (some ⟨g, 0, none⟩) 4096 4096) ∧ w'.rowIs g 22 4096 (fun k => .int .u32 (be m (4 * k) 4)) ∧ Keeps (fun _ => False) w w' :=
  (words_any r pb pw ph 16384 m w R).mono fun e w' h => ⟨_, h.1, h.2.1, h.2.2⟩
theorem yieldsIf_eql_agg {P : Program} {ops : Array Oper} {S : World → Prop} {op : Oper} {a : Act} (hw : Region.wanted op (yielded ops a.tmps) = true) (t t' : TypeId) (x y : Operand) (ho : op.op = .binOp .eql t x y t') (cs : Array Value) (hg : P.eqGuardType P.depth t = false)
    (he : ∀ w, (Op.equal t (.agg cs) (.agg cs)).run P w = .ok true w) (hx : a.eval x = .agg cs) (hy : a.eval y = .agg cs) : YieldsIf P ops S op (.bool true) a :=
  .inl ⟨hw, fun w _ => by
    unfold execOp
    simp only [ho, hx, hy]
    rw [Sem.run_bind, run_bin_agg .eql (.inr rfl) _ x y _ w hg (he w)]
    rfl⟩
theorem wpList_load_place {ops : Array Oper} {rest : List Oper} {op : Oper} {a : Act} {w : World} {Q : Exit → Act → World → Prop} (x : Operand) (ho : op.op = .load 29 x) (b : Nat) (s : Cp.St) (A : Option Addr) (n cap : Nat) (page : Int) (h : PlaceAt w b s A n cap page)
    (hx : a.eval x = .pointer (some ⟨b, 0, none⟩)) (hw : Region.wanted op (yielded ops a.tmps) = true) (hk : wpList Tryz.prog ops Q rest (a.put op.dst (.agg (placeL s A n cap page).toArray)) w) : wpList Tryz.prog ops Q (op :: rest) a w :=
  BigFrame.wpList_want hw fun _ hK => wp_load_mid _ x ho b 0 hx (placeL s A n cap page) _ h.range Tryz.underlying29 rfl (by
    rw [show (placeL s A n cap page).length = 45 by unfold placeL; rw [List.length_append, stL_len]; rfl]
    kernel_rfl) (hK _ _ hk)
theorem ramOf_rng (n : Nat) (ws : Nat → Int) : ∀ j, j < 16384 → 0 ≤ ramOf n ws j ∧ ramOf n ws j < 256 := fun j _ => by
  unfold ramOf Wb
  split <;> omega
theorem fault_small (many : Int) (l : List Ir.Op) : (Ir.fault many l).1 = 0 ∨ (1 ≤ (Ir.fault many l).1 ∧ (Ir.fault many l).1 ≤ 10) := by
  rcases Ir.fault_or many l with h | ⟨c, h1, h2, h3⟩
  · exact .inl h
  · exact .inr (by omega)
def eb0 (w : World) : Nat := w.heap.size
theorem fault_fine {many : Int} {l : List Ir.Op} (h : (Ir.fault many l).1 = 0) : Ir.fault many l = (0, -1) := Ir.fault_good (Ir.good_of_fault h)
end Go.Proofs.YtgmbladcoikffaaGreatDoor
