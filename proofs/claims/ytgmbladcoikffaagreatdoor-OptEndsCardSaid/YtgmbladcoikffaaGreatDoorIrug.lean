import Derived.Test.YtgmbladcoikffaaGreatDoorIrOps
import Derived.Test.YtgmbladcoikffaaGreatDoorMem
import Derived.BigQuiet
import Derived.Deep.QuietTactic
import Derived.Test.YtgmbladcoikffaaGreatDoorIru9
import Derived.Test.YtgmbladcoikffaaGreatDoorIru3
import Derived.Test.YtgmbladcoikffaaGreatDoorReads
import Derived.Laws.AppendOwn
import Derived.OwnWalk
import Derived.Lib.Hide
import Derived.Test.YtgmbladcoikffaaGreatDoorDead
import Derived.Test.YtgmbladcoikffaaGreatDoorIsKnown
import Derived.Deep.RegionHeld3
import Derived.Test.YtgmbladcoikffaaGreatDoorIru2
import Derived.Test.YtgmbladcoikffaaGreatDoorIru7
import Derived.Test.YtgmbladcoikffaaGreatDoorIru8

/- SameOps -/
/- The walk of the law's sameOps over ops that are the same. -/
namespace Go.Proofs.YtgmbladcoikffaaGreatDoor
open Go.RowKit Go.Deep
set_option linter.unusedVariables false
set_option linter.unusedSimpArgs false
set_option maxHeartbeats 2000000 in
set_option maxRecDepth 100000 in
theorem sameOps_same (A B : Option Addr) (n ca cb : Nat) (l : List Ir.Op) (w : World) (VA : OpsAt w A n ca l) (VB : OpsAt w B n cb l) (hca : ca ≤ 9223372036854775807) (hcb : cb ≤ 9223372036854775807) :
    Calls Tryz.prog 25 #[.slice A n ca, .slice B n cb] w fun e w' => e = .returned (.bool true) ∧ Keeps (fun _ => False) w w' := by
  have b1 := VA.le
  have b2 := VB.le
  have HA := Lib.hid VA
  have HB := Lib.hid VB
  clear VA VB
  go_enter Tryz.func25, Tryz.ntmps25
  go_wp2_with fail
  go_loopw [5] (fun s5 wr => ∃ i : Nat, i ≤ n ∧ s5 = .int .i64 i ∧ Keeps (fun _ => False) w wr) (fun s5 _ => n - (intOf s5).toNat)
  case atStart => exact ⟨0, by omega, rfl, Keeps.refl _ w⟩
  case round =>
    obtain ⟨i, hi, rfl, hK⟩ := hrel
    by_cases hlt : i < n
    · obtain ⟨ba, oa, rfl, p0, p1, p2, p3, p4, p5⟩ := (HA.out.quiet hK).get hlt
      obtain ⟨bb, ob, rfl, r0, r1, r2, r3, r4, r5⟩ := (HB.out.quiet hK).get hlt
      obtain ⟨op, hop⟩ : ∃ op, l.getD i Ir.nop = op := ⟨_, rfl⟩
      rw [hop] at p0 p1 p2 p3 p4 p5 r0 r1 r2 r3 r4 r5
      clear hop
      obtain ⟨ok, od, oaa, obb, oim, oat⟩ := op
      simp only at p0 p1 p2 p3 p4 p5 r0 r1 r2 r3 r4 r5
      have hi63 : (i : Int) < n := by omega
      go_wp2_with fail
      go_quiet (fail)
      go_wp2_with fail
      go_roundw
      case rel => exact ⟨i + 1, by omega, by go_num, hK.drewN _⟩
      case measure => simp [intOf]; omega
    · obtain rfl : i = n := by omega
      go_wp2_with fail
      go_ret
      exact ⟨rfl, hK⟩
end Go.Proofs.YtgmbladcoikffaaGreatDoor

/- SameEnd -/
/- The walk of the law's sameEnd over rows that end alike. Printed by gen/sameend.py. -/
namespace Go.Proofs.YtgmbladcoikffaaGreatDoor
open Go.RowKit Go.Deep
set_option linter.unusedVariables false
set_option linter.unusedSimpArgs false
theorem StAt.congrL {w : World} {sb : Nat} {s s' : Cp.St} (h : StAt w sb s) (e : stL s = stL s') : StAt w sb s' := by
  unfold StAt
  rw [← e]
  exact h
theorem not_typed {w : World} {b c n : Nat} {cs : Array Value} {T U : TypeId} {f : Nat → Value} (hT : T ≠ U) (hr : RowTo w b T n f) (hb : w.heap[c]? = some (.cells cs U (0, 0))) : ¬ b = c := fun e => by
  obtain ⟨d, hd, _⟩ := hr
  rw [e, hb] at hd
  injection hd with hd
  injection hd with _ h2
  exact hT h2.symm
set_option maxHeartbeats 8000000 in
set_option maxRecDepth 100000 in
theorem sameEnd_any (ra rb : List (List Ir.Op)) (many pc : Int) (A1 : Option Addr) (n1 c1 : Nat) (A2 : Option Addr) (n2 c2 : Nat) (s : Cp.St) (PA : Option Addr) (pn pcap : Nat) (page : Int) (ws : Nat → Int) (w : World) (V1 : RowsAt w A1 n1 c1 ra) (hc1 : c1 ≤ 9223372036854775807) (hi1 : ∀ l ∈ ra, (∀ o ∈ l, Ir.OpIn o) ∧ l.length < 1000000)
    (V2 : RowsAt w A2 n2 c2 rb) (hc2 : c2 ≤ 9223372036854775807) (hi2 : ∀ l ∈ rb, (∀ o ∈ l, Ir.OpIn o) ∧ l.length < 1000000) (hR : Reads w PA pn pcap (fun i => .int .u32 (ws i))) (hpc : pcap ≤ 9223372036854775807) (hr : ∀ i, i < pn → 0 ≤ ws i ∧ ws i < 4294967296) (hs : Cp.Rng (Ir.placedA s pc false)) (hp : 0 ≤ pc ∧ pc < 4294967296) (hmany : 0 ≤ many ∧ many ≤ 24)
    (eo eo2 : Ir.EO) (he1 : Ir.eoOf (Ir.placedA s pc false) (ramOf (min pn 4096) ws) many (Ir.runRows (watchF page) (Ir.mc0 (Ir.placedA s pc false)).X (ramOf (min pn 4096) ws) ra) = eo) (he2 : Ir.eoOf (Ir.placedA s pc false) (ramOf (min pn 4096) ws) many (Ir.runRows (watchF page) (Ir.mc0 (Ir.placedA s pc false)).X (ramOf (min pn 4096) ws) rb) = eo2)
    (ht : eo.t = eo2.t) (hst : stL eo2.s = stL eo.s) (hm : eo2.m = eo.m) (hrg : Cp.Rng eo.s) :
    Calls Tryz.prog 28 #[.slice A1 n1 c1, .slice A2 n2 c2, .int .i64 many, .agg (placeL s PA pn pcap page).toArray, .int .u32 pc] w fun e w' => e = .returned (.bool true) ∧ Keeps (fun _ => False) w w' := by
  have HV1 := Lib.hid V1
  have HV2 := Lib.hid V2
  have HRD := Lib.hid hR
  have HRR := Lib.hid hr
  have HN := Lib.hid (PlaceAt.new w s PA pn pcap page)
  have HK := Lib.hid ((Keeps.refl (fun _ => False) w).alloc (.cells (placeL s PA pn pcap page).toArray 29))
  have HPLC := Lib.hid (fun w => placed_any s PA pn pcap page pc w hp)
  obtain ⟨sp, hsp⟩ : ∃ sp, Ir.placedA s pc false = sp := ⟨_, rfl⟩
  rw [show Ir.placed s pc = sp from by rw [← hsp]; rfl] at HPLC
  rw [hsp] at he1 he2 hs
  have HS0 := Lib.hid (show sp.R 0 = 0 by rw [← hsp]; rfl)
  have HSR := Lib.hid hs
  obtain ⟨em, hem⟩ : ∃ m, ramOf (min pn 4096) ws = m := ⟨_, rfl⟩
  have HMOD := Lib.hid (fun w' (k : Keeps (fun _ => False) w w') => model_any s PA pn pcap page ws w' (hR.keep k (fun _ _ _ h => h)) hpc hr)
  unfold ModelIs at HMOD
  rw [hem] at HMOD he1 he2
  have HR1 := Lib.hid (fun xb q wb tb hb w' (k : Keeps (fun _ => False) w w') (hS : StAt w' xb sp) (R : RefAt w' q wb tb hb em (fun p => watchF page p) (fun _ => false)) => runOf_any ra many A1 n1 c1 xb q wb tb hb em (fun p => watchF page p) (fun _ => false) (watchF page) sp w' (V1.quiet k) hc1 hi1 hS hs R (fun p _ => rfl) HS0.out hmany)
  have HR2 := Lib.hid (fun xb q wb tb hb w' (k : Keeps (fun _ => False) w w') (hS : StAt w' xb sp) (R : RefAt w' q wb tb hb em (fun p => watchF page p) (fun _ => false)) => runOf_any rb many A2 n2 c2 xb q wb tb hb em (fun p => watchF page p) (fun _ => false) (watchF page) sp w' (V2.quiet k) hc2 hi2 hS hs R (fun p _ => rfl) HS0.out hmany)
  have HE1 := Lib.hid he1
  have HE2 := Lib.hid he2
  have HST := Lib.hid hst
  have HRG := Lib.hid hrg
  obtain ⟨et, ea1, es, m2⟩ := eo
  obtain ⟨et2, ea2, es2, m3⟩ := eo2
  simp only at ht hm HST HRG
  subst ht hm
  clear V1 V2 hi1 hi2 hR hr hs hsp hem he1 he2 hst hrg
  go_enter Tryz.func28, Tryz.ntmps28
  go_upto_region 1 with fail
  have HP1 := Lib.hid HN.out
  have HK1 := Lib.hid HK.out
  clear HN HK
  generalize w.alloc _ = w1 at *
  obtain ⟨x, hx⟩ : ∃ x, w.heap.size = x := ⟨_, rfl⟩
  rw [hx] at HP1 ⊢
  have HX := Lib.hid hx
  clear hx
  go_wp2_with (refine wpList_load_place _ rfl x s PA pn pcap page HP1.out rfl (by first | rfl | decide) ?_)
  refine (HPLC.out _).mono ?_
  rintro e w9 ⟨rfl, hk9⟩
  have HK9 := Lib.hid (HK1.out.trans hk9 (fun _ _ h => h))
  have HP9 := Lib.hid (HP1.out.keep hk9 (fun h => h))
  clear hk9
  go_wp2_with (with_reducible refine wpList_store_st rfl _ _ rfl _ _ sp (blk_alloc_new _ _) (by simp) rfl rfl ?_)
  intro w10 hS10 hk10
  have hk10' := ((Keeps.refl (fun _ => False) w9).alloc _).trans hk10 (fun j hj e => absurd (show j = w9.heap.size from e) (Nat.ne_of_lt hj))
  have HS10 := Lib.hid hS10
  have HK10 := Lib.hid (HK9.out.trans hk10' (fun _ _ h => h))
  have HP10 := Lib.hid (HP9.out.keep hk10' (fun h => h))
  have HXW := Lib.hid (show w.heap.size ≤ w9.heap.size from HK9.out.size)
  obtain ⟨xb, hxb⟩ : ∃ b, w9.heap.size = b := ⟨_, rfl⟩
  rw [hxb] at HS10 HXW ⊢
  clear hS10 hk10 hk10' hxb
  go_wp2_with (first
    | (with_reducible refine wpList_load_st rfl _ rfl xb sp HS10.out rfl ?_)
    | (with_reducible refine wpList_store_st rfl _ _ rfl _ _ sp (blk_alloc_new _ _) (by simp) rfl rfl ?_))
  intro w11 hS11 hk11
  have hk11' := ((Keeps.refl (fun _ => False) w10).alloc _).trans hk11 (fun j hj e => absurd (show j = w10.heap.size from e) (Nat.ne_of_lt hj))
  have HY11 := Lib.hid hS11
  have HX11 := Lib.hid (HS10.out.keep hk11' (fun h => h))
  have HK11 := Lib.hid (HK10.out.trans hk11' (fun _ _ h => h))
  have HP11 := Lib.hid (HP10.out.keep hk11' (fun h => h))
  have HXY := Lib.hid (HS10.out.lt)
  obtain ⟨yb, hyb⟩ : ∃ b, w10.heap.size = b := ⟨_, rfl⟩
  rw [hyb] at HY11 HXY ⊢
  clear hS11 hk11 hk11' hyb
  go_wp2_with (refine wpList_load_place _ rfl x s PA pn pcap page HP11.out rfl (by first | rfl | decide) ?_)
  refine (HMOD.out w11 HK11.out).mono ?_
  rintro e w12 ⟨q, wb, tb, hb, rfl, hRF, hnew, hk12⟩
  have HRF12 := Lib.hid hRF
  have HN12 := Lib.hid (show yb < q ∧ yb < wb ∧ yb < tb ∧ yb < hb from by have := HY11.out.lt; omega)
  have HK12 := Lib.hid (HK11.out.trans hk12 (fun _ _ h => h))
  have HP12 := Lib.hid (HP11.out.keep hk12 (fun h => h))
  have HX12 := Lib.hid (HX11.out.keep hk12 (fun h => h))
  have HY12 := Lib.hid (HY11.out.keep hk12 (fun h => h))
  clear hRF hnew hk12
  go_wp2_with (refine wpList_load_place _ rfl x s PA pn pcap page HP12.out rfl (by first | rfl | decide) ?_)
  refine (HMOD.out w12 HK12.out).mono ?_
  rintro e w13 ⟨q2, wb2, tb2, hb2, rfl, hRF2, hnew2, hk13⟩
  have HRF13 := Lib.hid (HRF12.out.keep hk13 ⟨fun h => h, fun h => h, fun h => h, fun h => h⟩)
  have HRG13 := Lib.hid hRF2
  have HN13 := Lib.hid (show q < q2 ∧ q < wb2 ∧ q < tb2 ∧ q < hb2 from by have := (Array.getElem?_eq_some_iff.1 HRF12.out.raw.box).1; omega)
  have HK13 := Lib.hid (HK12.out.trans hk13 (fun _ _ h => h))
  have HX13 := Lib.hid (HX12.out.keep hk13 (fun h => h))
  have HY13 := Lib.hid (HY12.out.keep hk13 (fun h => h))
  clear hRF2 hnew2 hk13 HP12 HP11 HP10 HP9 HP1
  -- the first run
  go_wp2_with fail
  refine (HR1.out xb q wb tb hb w13 HK13.out HX13.out HRF13.out).mono ?_
  intro e w14 h14
  obtain ⟨f1, wb3, rfl, hS14, hR14, hk14⟩ := h14.out HX13.out HRF13.out
  rw [HE1.out] at hS14 hR14 ⊢
  dsimp only at hS14 hR14 ⊢
  unfold rendC
  have hka := (Keeps.refl (fun _ => False) w14).alloc (.cells #[.bool et, .int .i64 ea1, .bool f1] 56)
  have HD15 := Lib.hid (REndBox.new w14 et ea1 f1)
  simp only [rendC] at HD15
  have hk15 := hk14.trans (hka.mono (T := fun b => b = xb ∨ b = q) (fun _ _ h => h.elim)) (fun _ _ h => h)
  have HK15 := Lib.hid (HK13.out.trans hk15 (fun b hb h => by have h1 := HXW.out; have h2 := HXY.out; have h3 := HN12.out.1; rcases h with h | h <;> omega))
  have HX15 := Lib.hid (StAt.keep hS14 hka (fun h => h))
  have HR15 := Lib.hid (hR14.keep hka ⟨fun h => h, fun h => h, fun h => h, fun h => h⟩)
  have HY15 := Lib.hid (HY13.out.keep hk15 (fun h => by have h2 := HXY.out; have h3 := HN12.out.1; rcases h with h | h <;> omega))
  have HRG15 := Lib.hid (HRG13.out.keep hk15 ⟨fun h => by have h1 := HN13.out; have h2 := HXY.out; have h3 := HN12.out.1; rcases h with h | h <;> omega, fun h => by have h1 := HN13.out; have h2 := HXY.out; have h3 := HN12.out.1; rcases h with h | h <;> omega, fun h => by have h1 := HN13.out; have h2 := HXY.out; have h3 := HN12.out.1; rcases h with h | h <;> omega, fun h => by have h1 := HN13.out; have h2 := HXY.out; have h3 := HN12.out.1; rcases h with h | h <;> omega⟩)
  clear h14 hS14 hR14 hk14 hka hk15
  go_upto_region 6 with fail
  generalize w14.alloc _ = w15 at *
  generalize w14.heap.size = db at *
  -- the second run
  go_wp2_with fail
  refine (HR2.out yb q2 wb2 tb2 hb2 w15 HK15.out HY15.out HRG15.out).mono ?_
  intro e w16 h16
  obtain ⟨f2, wb4, rfl, hS16, hR16, hk16⟩ := h16.out HY15.out HRG15.out
  rw [HE2.out] at hS16 hR16 ⊢
  dsimp only at hS16 hR16 ⊢
  unfold rendC
  have hka := (Keeps.refl (fun _ => False) w16).alloc (.cells #[.bool et, .int .i64 ea2, .bool f2] 56)
  have HE17 := Lib.hid (REndBox.new w16 et ea2 f2)
  simp only [rendC] at HE17
  have hk17 := hk16.trans (hka.mono (T := fun b => b = yb ∨ b = q2) (fun _ _ h => h.elim)) (fun _ _ h => h)
  have hyblk : w15.heap[yb]? = some (.cells (stL sp).toArray 26 (0, 0)) := HY15.out
  have HK17 := Lib.hid (HK15.out.trans hk17 (fun b hb h => by have h1 := HXW.out; have h2 := HXY.out; have h3 := HN12.out.1; have h4 := HN13.out.1; rcases h with h | h <;> omega))
  have HX17 := Lib.hid (HX15.out.keep hk17 (fun h => by have h2 := HXY.out; have h3 := HN12.out.1; have h4 := HN13.out.1; rcases h with h | h <;> omega))
  have HW17 := Lib.hid (hk17.rowTo HR15.out.raw.words (fun h => h.elim (not_typed (by decide) HR15.out.raw.words hyblk) (not_typed (by decide) HR15.out.raw.words HRG15.out.raw.box)))
  have HQ17 := Lib.hid ((hk17.block q (Array.getElem?_eq_some_iff.1 HR15.out.raw.box).1 (fun h => by have h3 := HN12.out.1; have h4 := HN13.out.1; rcases h with h | h <;> omega)).trans HR15.out.raw.box)
  have HD17 := Lib.hid (HD15.out.keep hk17 (fun h => h.elim (fun e => by
    have h1 := HD15.out.blk
    rw [e, hyblk] at h1
    injection h1 with h1
    injection h1 with _ h2
    exact absurd h2 (by decide)) (fun e => by
    have h1 := HD15.out.blk
    rw [e, HRG15.out.raw.box] at h1
    injection h1 with h1
    injection h1 with _ h2
    exact absurd h2 (by decide))))
  have HY17 := Lib.hid (StAt.congrL (StAt.keep hS16 hka (fun h => h)) HST.out)
  have HR17 := Lib.hid (hR16.keep hka ⟨fun h => h, fun h => h, fun h => h, fun h => h⟩)
  clear h16 hS16 hR16 hk16 hka hk17 hyblk
  go_upto_region 7 with fail
  generalize w16.alloc _ = w17 at *
  generalize w16.heap.size = eb at *
  have hr1 := HX17.out.range
  have hr2 := HY17.out.range
  have HI : Hid ((Tryz.prog.info? 26).map (·.size) = some (stL es).length) := Lib.hid (by rw [stL_len]; exact size_st)
  have HU := Lib.hid Tryz.underlying26
  have HQ := Lib.hid (fun w => equal_st w es HRG.out)
  have Z0 := Lib.hid HD17.out.cells.1
  have Z1 := Lib.hid HE17.out.cells.1
  have Z2 := Lib.hid (cell_at HQ17.out 0)
  have Z3 := Lib.hid (cell_at HR17.out.raw.box 0)
  have HWR := Lib.hid HR17.out.raw.words
  generalize stL es = cs at hr1 hr2 HI HQ ⊢
  refine wp_region_held_drew (S := fun w' => Keeps (fun _ => False) w17 w') (by kernel_rfl) (Keeps.refl _ w17).drew (fun hH0 => ?_)
  refine wpAnyH_take (i := 0) (v := ?_) rfl (by kernel_rfl) (by kernel_rfl) (by kernel_rfl) (fun _ _ _ h => h) (Or.inl ⟨by rfl, ?_⟩) hH0 ?_
  rotate_left
  · intro w' hSw
    go_simp
    try with_reducible rfl
  simp only [Act.put, List.setIfInBounds_toArray, List.set_cons_zero, List.set_cons_succ]
  refine wpAnyH_take (i := 1) (v := ?_) rfl (by kernel_rfl) (by kernel_rfl) (by kernel_rfl) (fun _ _ _ h => h) (Or.inl ⟨by rfl, ?_⟩) hH0 ?_
  rotate_left
  · intro w' hSw
    have c := Keeps.cell' hSw Z0.out (fun f => f)
    go_simp
    try with_reducible rfl
  simp only [Act.put, List.setIfInBounds_toArray, List.set_cons_zero, List.set_cons_succ]
  refine wpAnyH_take (i := 2) (v := ?_) rfl (by kernel_rfl) (by kernel_rfl) (by kernel_rfl) (fun _ _ _ h => h) (Or.inl ⟨by rfl, ?_⟩) hH0 ?_
  rotate_left
  · intro w' hSw
    go_simp
    try with_reducible rfl
  simp only [Act.put, List.setIfInBounds_toArray, List.set_cons_zero, List.set_cons_succ]
  refine wpAnyH_take (i := 3) (v := ?_) rfl (by kernel_rfl) (by kernel_rfl) (by kernel_rfl) (fun _ _ _ h => h) (Or.inl ⟨by rfl, ?_⟩) hH0 ?_
  rotate_left
  · intro w' hSw
    have c := Keeps.cell' hSw Z1.out (fun f => f)
    go_simp
    try with_reducible rfl
  simp only [Act.put, List.setIfInBounds_toArray, List.set_cons_zero, List.set_cons_succ]
  refine wpAnyH_take (i := 4) (v := ?_) rfl (by kernel_rfl) (by kernel_rfl) (by kernel_rfl) (fun _ _ _ h => h) (Or.inl ⟨by rfl, ?_⟩) hH0 ?_
  rotate_left
  · intro w' hSw
    go_simp
    try with_reducible rfl
  simp only [Act.put, List.setIfInBounds_toArray, List.set_cons_zero, List.set_cons_succ]
  refine wpAnyH_take (i := 5) (v := ?_) rfl (by kernel_rfl) (by kernel_rfl) (by kernel_rfl) (fun _ _ _ h => h) (Or.inl ⟨by rfl, ?_⟩) hH0 ?_
  rotate_left
  · intro w' hSw
    go_simp
    try with_reducible rfl
  simp only [Act.put, List.setIfInBounds_toArray, List.set_cons_zero, List.set_cons_succ]
  refine wpAnyH_take (i := 6) (v := .agg cs.toArray) rfl (by kernel_rfl) (by kernel_rfl) (by kernel_rfl) (fun _ _ _ h => h) (yieldsIf_load_mid (by go_simp) 26 (.tmp 11) rfl xb 0 (by go_simp) cs _ (fun w' hSw => range_keep hr1 hSw) HU.out rfl HI.out) hH0 ?_
  simp only [Act.put, List.setIfInBounds_toArray, List.set_cons_zero, List.set_cons_succ]
  refine wpAnyH_take (i := 7) (v := .agg cs.toArray) rfl (by kernel_rfl) (by kernel_rfl) (by kernel_rfl) (fun _ _ _ h => h) (yieldsIf_load_mid (by go_simp) 26 (.tmp 12) rfl yb 0 (by go_simp) cs _ (fun w' hSw => range_keep hr2 hSw) HU.out rfl HI.out) hH0 ?_
  simp only [Act.put, List.setIfInBounds_toArray, List.set_cons_zero, List.set_cons_succ]
  refine wpAnyH_take (i := 8) (v := .bool true) rfl (by kernel_rfl) (by kernel_rfl) (by kernel_rfl) (fun _ _ _ h => h) (yieldsIf_eql_agg (by go_simp) 26 26 (.tmp 39) (.tmp 40) rfl cs.toArray eqg_st HQ.out (by go_simp) (by go_simp)) hH0 ?_
  simp only [Act.put, List.setIfInBounds_toArray, List.set_cons_zero, List.set_cons_succ]
  refine wpAnyH_take (i := 9) (v := ?_) rfl (by kernel_rfl) (by kernel_rfl) (by kernel_rfl) (fun _ _ _ h => h) (Or.inl ⟨by go_simp, ?_⟩) hH0 ?_
  rotate_left
  · intro w' hSw
    go_simp
    try with_reducible rfl
  simp only [Act.put, List.setIfInBounds_toArray, List.set_cons_zero, List.set_cons_succ]
  refine wpAnyH_take (i := 10) (v := ?_) rfl (by kernel_rfl) (by kernel_rfl) (by kernel_rfl) (fun _ _ _ h => h) (Or.inl ⟨by rfl, ?_⟩) hH0 ?_
  rotate_left
  · intro w' hSw
    go_simp
    try with_reducible rfl
  simp only [Act.put, List.setIfInBounds_toArray, List.set_cons_zero, List.set_cons_succ]
  refine wpAnyH_take (i := 11) (v := ?_) rfl (by kernel_rfl) (by kernel_rfl) (by kernel_rfl) (fun _ _ _ h => h) (Or.inl ⟨by go_simp, ?_⟩) hH0 ?_
  rotate_left
  · intro w' hSw
    go_simp
    try with_reducible rfl
  simp only [Act.put, List.setIfInBounds_toArray, List.set_cons_zero, List.set_cons_succ]
  refine wpAnyH_take (i := 12) (v := ?_) rfl (by kernel_rfl) (by kernel_rfl) (by kernel_rfl) (fun _ _ _ h => h) (Or.inl ⟨by go_simp, ?_⟩) hH0 ?_
  rotate_left
  · intro w' hSw
    go_simp
    try with_reducible rfl
  simp only [Act.put, List.setIfInBounds_toArray, List.set_cons_zero, List.set_cons_succ]
  refine wpAnyH_take (i := 13) (v := ?_) rfl (by kernel_rfl) (by kernel_rfl) (by kernel_rfl) (fun _ _ _ h => h) (Or.inl ⟨by go_simp, ?_⟩) hH0 ?_
  rotate_left
  · intro w' hSw
    go_simp
    try with_reducible rfl
  simp only [Act.put, List.setIfInBounds_toArray, List.set_cons_zero, List.set_cons_succ]
  refine wpAnyH_take (i := 14) (v := ?_) rfl (by kernel_rfl) (by kernel_rfl) (by kernel_rfl) (fun _ _ _ h => h) (Or.inl ⟨by go_simp, ?_⟩) hH0 ?_
  rotate_left
  · intro w' hSw
    have c := Keeps.cell' hSw Z2.out (fun f => f)
    go_simp
    try with_reducible rfl
  simp only [Act.put, List.setIfInBounds_toArray, List.set_cons_zero, List.set_cons_succ]
  refine wpAnyH_take (i := 15) (v := ?_) rfl (by kernel_rfl) (by kernel_rfl) (by kernel_rfl) (fun _ _ _ h => h) (Or.inl ⟨by go_simp, ?_⟩) hH0 ?_
  rotate_left
  · intro w' hSw
    go_simp
    try with_reducible rfl
  simp only [Act.put, List.setIfInBounds_toArray, List.set_cons_zero, List.set_cons_succ]
  refine wpAnyH_take (i := 16) (v := ?_) rfl (by kernel_rfl) (by kernel_rfl) (by kernel_rfl) (fun _ _ _ h => h) (Or.inl ⟨by go_simp, ?_⟩) hH0 ?_
  rotate_left
  · intro w' hSw
    go_simp
    try with_reducible rfl
  simp only [Act.put, List.setIfInBounds_toArray, List.set_cons_zero, List.set_cons_succ]
  refine wpAnyH_take (i := 17) (v := ?_) rfl (by kernel_rfl) (by kernel_rfl) (by kernel_rfl) (fun _ _ _ h => h) (Or.inl ⟨by go_simp, ?_⟩) hH0 ?_
  rotate_left
  · intro w' hSw
    go_simp
    try with_reducible rfl
  simp only [Act.put, List.setIfInBounds_toArray, List.set_cons_zero, List.set_cons_succ]
  refine wpAnyH_take (i := 18) (v := ?_) rfl (by kernel_rfl) (by kernel_rfl) (by kernel_rfl) (fun _ _ _ h => h) (Or.inl ⟨by go_simp, ?_⟩) hH0 ?_
  rotate_left
  · intro w' hSw
    have c := Keeps.cell' hSw Z3.out (fun f => f)
    go_simp
    try with_reducible rfl
  simp only [Act.put, List.setIfInBounds_toArray, List.set_cons_zero, List.set_cons_succ]
  refine wpAnyH_ready (rs := [19]) (by kernel_rfl) (by simp) ?_
  refine AllReadyH.cons rfl (fun K hK => ?_) AllReadyH.nil
  go_simp
  refine (alike_same wb3 wb4 4096 4096 4096 (fun k => be m3 (4 * k) 4) w17.drew (by omega) (by omega) (by omega) (fun i hi => (Keeps.rowTo hH0 HW17.out (fun h => h)).cell hi) (fun i hi => (Keeps.rowTo hH0 HWR.out (fun h => h)).cell hi)).mono ?_
  rintro e wx2 ⟨rfl, hkx2⟩
  go_wp2_with fail
  have hH1 := Keeps.trans hH0 hkx2 (fun _ _ h => h)
  refine hK.out _ _ hH1 (fun _ => ?_)
  clear hK K
  try simp only [Act.put, List.setIfInBounds_toArray, List.set_cons_zero, List.set_cons_succ]
  refine wpAnyH_ready (rs := [20]) (by kernel_rfl) (by simp) ?_
  refine AllReadyH.cons rfl (fun K hK => ?_) AllReadyH.nil
  go_simp
  refine hK.out _ _ hH1 (fun _ => ?_)
  clear hK K
  try simp only [Act.put, List.setIfInBounds_toArray, List.set_cons_zero, List.set_cons_succ]
  refine wpAnyH_ready (rs := [21]) (by kernel_rfl) (by simp) ?_
  refine AllReadyH.cons rfl (fun K hK => ?_) AllReadyH.nil
  go_simp
  refine hK.out _ _ hH1 (fun _ => ?_)
  clear hK K
  try simp only [Act.put, List.setIfInBounds_toArray, List.set_cons_zero, List.set_cons_succ]
  refine wpAnyH_ready (rs := [22]) (by kernel_rfl) (by simp) ?_
  refine AllReadyH.cons rfl (fun K hK => ?_) AllReadyH.nil
  go_simp
  refine hK.out _ _ hH1 (fun _ => ?_)
  clear hK K
  try simp only [Act.put, List.setIfInBounds_toArray, List.set_cons_zero, List.set_cons_succ]
  refine wpAnyH_done (by kernel_rfl) ?_ _
  go_wp2_with fail
  go_ret
  exact ⟨by go_simp, HK17.out.trans hH1 (fun _ _ h => h)⟩
end Go.Proofs.YtgmbladcoikffaaGreatDoor

/- ReadsOf -/
/- The walk of the reference's ReadsOf. -/
namespace Go.Proofs.YtgmbladcoikffaaGreatDoor
open Go.RowKit Go.Deep
set_option linter.unusedVariables false
set_option linter.unusedSimpArgs false

theorem Tryz.info_int : (Tryz.prog.info? 3).map (fun i => (i.zero, i.size, i.bytes)) = some (some (.int .i64 0), 1, 8) := by kernel_rfl
def intsL (l : List Int) : List Value := l.map (.int .i64)
/-- a row of ints of the call's own -/
def IntsOwn (w : World) (base : Nat) (l : List Int) (v : Value) : Prop := ∃ A cap, v = .slice A l.length cap ∧ w.ownsRow base 3 1 v l.length (intsL l)
theorem IntsOwn.reads {w : World} {base : Nat} {l : List Int} {v : Value} (h : IntsOwn w base l v) : ∃ A cap, v = .slice A l.length cap ∧ cap ≤ maxLen ∧ Reads w A l.length cap (fun i => .int .i64 (l.getD i 0)) := by
  obtain ⟨A, cap, rfl, h1, ⟨h2, h3⟩ | ⟨g, cap', cur, h2, h3, h4, h5, h6, h7, h8⟩⟩ := h
  · injection h2 with e1 e2 e3
    subst e1 e3
    exact ⟨none, 0, rfl, by decide, by omega, .inl rfl⟩
  · injection h2 with e1 e2 e3
    subst e1 e3
    refine ⟨_, cap, rfl, h6, h5, .inr ⟨g, 0, rfl, (Array.getElem?_eq_some_iff.1 h4).1, fun i hi => ?_⟩⟩
    have e : (cur.toList.take (l.length * 1))[i]? = (intsL l)[i]? := by rw [h8]
    rw [List.getElem?_take_of_lt (by omega)] at e
    unfold World.cell?
    rw [h4]
    simp only [Nat.zero_add]
    unfold intsL at e
    rw [List.getElem?_map, List.getElem?_eq_getElem hi] at e
    rw [List.getD_eq_getElem?_getD, List.getElem?_eq_getElem hi]
    simpa using e
/-- one more int -/
theorem IntsOwn.more {w w' : World} {base : Nat} {l : List Int} {v v' : Value} {a : Int} {n : Nat} (hn : n = l.length) (h : w'.ownsRow base 3 1 v' (n + 1) (intsL l ++ [.int .i64 a])) : IntsOwn w' base (l ++ [a]) v' := by
  subst hn
  obtain ⟨A, cap, rfl⟩ := owns_slice h
  refine ⟨A, cap, by simp, ?_⟩
  rw [show (l ++ [a]).length = l.length + 1 by simp, show intsL (l ++ [a]) = intsL l ++ [.int .i64 a] by simp [intsL]]
  exact h
theorem owns_low {w : World} {base base' : Nat} {e : TypeId} {size : Nat} {v : Value} {n : Nat} {xs : List Value} (h : w.ownsRow base e size v n xs) (hb : base' ≤ base) : w.ownsRow base' e size v n xs := by
  obtain ⟨h1, h2 | ⟨g, cap, cur, h2, h3, h4⟩⟩ := h
  · exact ⟨h1, .inl h2⟩
  · exact ⟨h1, .inr ⟨g, cap, cur, h2, Nat.le_trans hb h3, h4⟩⟩
theorem ints_cell (a : Int) : ∀ u ∈ [Value.int .i64 a], u.oneCell' = true := by
  intro u hu
  simp only [List.mem_singleton] at hu
  subst hu
  rfl
set_option maxHeartbeats 4000000 in
set_option maxRecDepth 100000 in
theorem readsOf_any (o : Ir.Op) (w : World) :
    Calls Tryz.prog 99 #[.agg (opC o)] w fun e w' => ∃ v, e = .returned v ∧ IntsOwn w' w.heap.size (Ir.reads o) v ∧ Keeps (fun _ => False) w w' := by
  obtain ⟨i0, hi, hz0, hz1, hz2⟩ := info_parts Tryz.info_int
  obtain ⟨k, d, a, b, im, t⟩ := o
  have hr : Ir.reads ⟨k, d, a, b, im, t⟩ = ((if hasL (Ir.kn k) 65 = true then [a] else []) ++ (if (hasL (Ir.kn k) 66 && !(Ir.kn k == 5)) = true then [b] else [])) ++ (if Ir.isDiv (Ir.kn k) = true then [d] else []) := by
    unfold Ir.reads
    rw [show hasL (Ir.kn k) 65 = Ir.hasA (Ir.kn k) from rfl, show hasL (Ir.kn k) 66 = Ir.hasB (Ir.kn k) from rfl, nat_beq]
    simp
  rw [hr]
  clear hr
  obtain ⟨bw, hB⟩ : ∃ B, w.heap.size = B := ⟨_, rfl⟩
  rw [hB]
  have HBW := Lib.hid hB
  clear hB
  have HF := Lib.hid (fun w => fieldsOf_any k w)
  have HIA := Lib.hid (fun w => isOf_fields (Ir.kn k) (Ir.kn_le k) 65 (.inr (.inl rfl)) w)
  have HIB := Lib.hid (fun w => isOf_fields (Ir.kn k) (Ir.kn_le k) 66 (.inr (.inr (.inl rfl))) w)
  have HD := Lib.hid (fun w => isDiv_any k w)
  have h5 := is_load k
  have HN := Lib.hid (op_new w k d a b im t 85)
  generalize hasL (Ir.kn k) 65 = pa at *
  generalize hasL (Ir.kn k) 66 = pb at *
  generalize (Ir.kn k == 5) = p5 at *
  generalize Ir.isDiv (Ir.kn k) = pd at *
  generalize fieldsB (Ir.kn k) = fb at *
  have h5n : (k.toList != [108, 111, 97, 100]) = !p5 := by rw [bne, h5]
  unfold opC
  go_enter Tryz.func99, Tryz.ntmps99
  go_upto_region 1 with fail
  obtain ⟨hV, hK⟩ := HN.out
  have hB := HBW.out
  clear HBW
  have hxl := World.block_lt_of_cell? _ _ hV.v0
  generalize w.alloc _ = w0 at *
  generalize w.heap.size = x at *
  have HV0 := Lib.hid hV
  have HK0 := Lib.hid hK
  obtain ⟨B, hBB⟩ : ∃ B, w0.heap.size = B := ⟨_, rfl⟩
  have HX := Lib.hid (show x < B ∧ bw ≤ B ∧ w.heap.size ≤ B from by have := hK.size; simp only at hxl; omega)
  have HB0 := Lib.hid (show B ≤ w0.heap.size by omega)
  have HP0 := Lib.hid (World.ownsRow_nil w0 B 3 1)
  clear hxl hBB hB
  obtain ⟨v0, v1, v2, v3, v4, v5⟩ := hV
  simp only at v0 v1 v2 v3 v4 v5
  clear hK HN

  go_wp2_with fail
  refine (HF.out _).mono ?_
  rintro e w' ⟨rfl, hw'⟩
  obtain rfl := hw'.symm
  go_wp2_with fail
  refine (HIA.out _).mono ?_
  rintro e w' ⟨rfl, hw'⟩
  obtain rfl := hw'.symm
  cases pa
  ·
    go_wp2_with fail
    refine (HIB.out _).mono ?_
    rintro e w' ⟨rfl, hw'⟩
    obtain rfl := hw'.symm
    cases pb
    ·
      go_wp2_with fail
      refine (HD.out _).mono ?_
      rintro e w' ⟨rfl, hw'⟩
      obtain rfl := hw'.symm
      cases pd
      ·
        go_wp2_with fail
        go_ret
        exact ⟨_, rfl, ⟨none, 0, rfl, owns_low HP0.out (by have := HX.out.2.1; have := HX.out.2.2; omega)⟩, HK0.out⟩
      ·
        have HQ0 := Lib.hid (show (w0.alloc (.cells #[.int .i64 d] 3)).ownsRow B 3 1 (.slice none 0 0) 0 (intsL []) from HP0.out.alloc _)
        have HS0 := Lib.hid (show B ≤ (w0.alloc (.cells #[.int .i64 d] 3)).heap.size by rw [nblk_alloc]; have := HB0.out; omega)
        have HA0 := Lib.hid ((Keeps.refl (fun _ => False) w0).alloc (.cells #[.int .i64 d] 3))
        have HC0 := Lib.hid (fun j u hj => cells_new w0 [.int .i64 d] 3 j u hj)
        go_wp2_with (at_builtin; go_loud (refine wpList_append_own _ rfl _ _ 157 rfl B 3 i0 _ 1 8 Tryz.underlying157 hi hz0 hz1 hz2 rfl (by decide) (.slice none 0 0) 0 (intsL []) rfl HQ0.out ⟨w0.heap.size, 0, none⟩ 1 1 [.int .i64 d] rfl rfl HC0.out (ints_cell d) (by decide) (by decide) HS0.out ?c0))
        case c0 =>
          intro v' w1 hown hgrow hnil
          obtain ⟨A1, cap1, rfl⟩ := owns_slice hown
          have hlt := HQ0.out.lt
          have HW1 := Lib.hid (show Keeps (fun k => B ≤ k) w0 w1 from ((HA0.out.mono (fun _ _ h => h.elim)).grown hgrow (fun k hk _ => (hlt k hk).1)))
          have HK1 := Lib.hid (show Keeps (fun _ => False) w w1 from HK0.out.trans HW1.out (fun b hb h => by have h : B ≤ b := h; have := HX.out.2.1; have := HX.out.2.2; omega))
          have HV1 := Lib.hid (HV0.out.keep HW1.out (by have := HX.out.1; omega))
          have HP1 := Lib.hid (show w1.ownsRow B 3 1 (.slice A1 1 cap1) 1 (intsL [d]) from hown)
          have HB1 := Lib.hid (Nat.le_trans HB0.out HW1.out.size)
          clear hown hgrow hnil hlt v0 v1 v2 v3 v4 v5
          obtain ⟨v0, v1, v2, v3, v4, v5⟩ := HV1.out
          simp only at v0 v1 v2 v3 v4 v5
          go_wp2_with fail
          go_ret
          exact ⟨_, rfl, ⟨A1, cap1, rfl, owns_low HP1.out (by have := HX.out.2.1; have := HX.out.2.2; omega)⟩, HK1.out⟩
    ·
      cases p5
      ·
        have HQ0 := Lib.hid (show (w0.alloc (.cells #[.int .i64 b] 3)).ownsRow B 3 1 (.slice none 0 0) 0 (intsL []) from HP0.out.alloc _)
        have HS0 := Lib.hid (show B ≤ (w0.alloc (.cells #[.int .i64 b] 3)).heap.size by rw [nblk_alloc]; have := HB0.out; omega)
        have HA0 := Lib.hid ((Keeps.refl (fun _ => False) w0).alloc (.cells #[.int .i64 b] 3))
        have HC0 := Lib.hid (fun j u hj => cells_new w0 [.int .i64 b] 3 j u hj)
        go_wp2_with (at_builtin; go_loud (refine wpList_append_own _ rfl _ _ 157 rfl B 3 i0 _ 1 8 Tryz.underlying157 hi hz0 hz1 hz2 rfl (by decide) (.slice none 0 0) 0 (intsL []) rfl HQ0.out ⟨w0.heap.size, 0, none⟩ 1 1 [.int .i64 b] rfl rfl HC0.out (ints_cell b) (by decide) (by decide) HS0.out ?c0))
        case c0 =>
          intro v' w1 hown hgrow hnil
          obtain ⟨A1, cap1, rfl⟩ := owns_slice hown
          have hlt := HQ0.out.lt
          have HW1 := Lib.hid (show Keeps (fun k => B ≤ k) w0 w1 from ((HA0.out.mono (fun _ _ h => h.elim)).grown hgrow (fun k hk _ => (hlt k hk).1)))
          have HK1 := Lib.hid (show Keeps (fun _ => False) w w1 from HK0.out.trans HW1.out (fun b hb h => by have h : B ≤ b := h; have := HX.out.2.1; have := HX.out.2.2; omega))
          have HV1 := Lib.hid (HV0.out.keep HW1.out (by have := HX.out.1; omega))
          have HP1 := Lib.hid (show w1.ownsRow B 3 1 (.slice A1 1 cap1) 1 (intsL [b]) from hown)
          have HB1 := Lib.hid (Nat.le_trans HB0.out HW1.out.size)
          clear hown hgrow hnil hlt v0 v1 v2 v3 v4 v5
          obtain ⟨v0, v1, v2, v3, v4, v5⟩ := HV1.out
          simp only at v0 v1 v2 v3 v4 v5
          go_wp2_with fail
          refine (HD.out _).mono ?_
          rintro e w' ⟨rfl, hw'⟩
          obtain rfl := hw'.symm
          cases pd
          ·
            go_wp2_with fail
            go_ret
            exact ⟨_, rfl, ⟨A1, cap1, rfl, owns_low HP1.out (by have := HX.out.2.1; have := HX.out.2.2; omega)⟩, HK1.out⟩
          ·
            have HQ1 := Lib.hid (show (w1.alloc (.cells #[.int .i64 d] 3)).ownsRow B 3 1 (.slice A1 1 cap1) 1 (intsL [b]) from HP1.out.alloc _)
            have HS1 := Lib.hid (show B ≤ (w1.alloc (.cells #[.int .i64 d] 3)).heap.size by rw [nblk_alloc]; have := HB1.out; omega)
            have HA1 := Lib.hid ((Keeps.refl (fun _ => False) w1).alloc (.cells #[.int .i64 d] 3))
            have HC1 := Lib.hid (fun j u hj => cells_new w1 [.int .i64 d] 3 j u hj)
            go_wp2_with (at_builtin; go_loud (refine wpList_append_own _ rfl _ _ 157 rfl B 3 i0 _ 1 8 Tryz.underlying157 hi hz0 hz1 hz2 rfl (by decide) (.slice A1 1 cap1) 1 (intsL [b]) rfl HQ1.out ⟨w1.heap.size, 0, none⟩ 1 1 [.int .i64 d] rfl rfl HC1.out (ints_cell d) (by decide) (by decide) HS1.out ?c1))
            case c1 =>
              intro v' w2 hown hgrow hnil
              obtain ⟨A2, cap2, rfl⟩ := owns_slice hown
              have hlt := HQ1.out.lt
              have HW2 := Lib.hid (show Keeps (fun k => B ≤ k) w1 w2 from ((HA1.out.mono (fun _ _ h => h.elim)).grown hgrow (fun k hk _ => (hlt k hk).1)))
              have HK2 := Lib.hid (show Keeps (fun _ => False) w w2 from HK1.out.trans HW2.out (fun b hb h => by have h : B ≤ b := h; have := HX.out.2.1; have := HX.out.2.2; omega))
              have HV2 := Lib.hid (HV1.out.keep HW2.out (by have := HX.out.1; omega))
              have HP2 := Lib.hid (show w2.ownsRow B 3 1 (.slice A2 2 cap2) 2 (intsL [b, d]) from hown)
              have HB2 := Lib.hid (Nat.le_trans HB1.out HW2.out.size)
              clear hown hgrow hnil hlt v0 v1 v2 v3 v4 v5
              obtain ⟨v0, v1, v2, v3, v4, v5⟩ := HV2.out
              simp only at v0 v1 v2 v3 v4 v5
              go_wp2_with fail
              go_ret
              exact ⟨_, rfl, ⟨A2, cap2, rfl, owns_low HP2.out (by have := HX.out.2.1; have := HX.out.2.2; omega)⟩, HK2.out⟩
      ·
        go_wp2_with fail
        refine (HD.out _).mono ?_
        rintro e w' ⟨rfl, hw'⟩
        obtain rfl := hw'.symm
        cases pd
        ·
          go_wp2_with fail
          go_ret
          exact ⟨_, rfl, ⟨none, 0, rfl, owns_low HP0.out (by have := HX.out.2.1; have := HX.out.2.2; omega)⟩, HK0.out⟩
        ·
          have HQ0 := Lib.hid (show (w0.alloc (.cells #[.int .i64 d] 3)).ownsRow B 3 1 (.slice none 0 0) 0 (intsL []) from HP0.out.alloc _)
          have HS0 := Lib.hid (show B ≤ (w0.alloc (.cells #[.int .i64 d] 3)).heap.size by rw [nblk_alloc]; have := HB0.out; omega)
          have HA0 := Lib.hid ((Keeps.refl (fun _ => False) w0).alloc (.cells #[.int .i64 d] 3))
          have HC0 := Lib.hid (fun j u hj => cells_new w0 [.int .i64 d] 3 j u hj)
          go_wp2_with (at_builtin; go_loud (refine wpList_append_own _ rfl _ _ 157 rfl B 3 i0 _ 1 8 Tryz.underlying157 hi hz0 hz1 hz2 rfl (by decide) (.slice none 0 0) 0 (intsL []) rfl HQ0.out ⟨w0.heap.size, 0, none⟩ 1 1 [.int .i64 d] rfl rfl HC0.out (ints_cell d) (by decide) (by decide) HS0.out ?c0))
          case c0 =>
            intro v' w1 hown hgrow hnil
            obtain ⟨A1, cap1, rfl⟩ := owns_slice hown
            have hlt := HQ0.out.lt
            have HW1 := Lib.hid (show Keeps (fun k => B ≤ k) w0 w1 from ((HA0.out.mono (fun _ _ h => h.elim)).grown hgrow (fun k hk _ => (hlt k hk).1)))
            have HK1 := Lib.hid (show Keeps (fun _ => False) w w1 from HK0.out.trans HW1.out (fun b hb h => by have h : B ≤ b := h; have := HX.out.2.1; have := HX.out.2.2; omega))
            have HV1 := Lib.hid (HV0.out.keep HW1.out (by have := HX.out.1; omega))
            have HP1 := Lib.hid (show w1.ownsRow B 3 1 (.slice A1 1 cap1) 1 (intsL [d]) from hown)
            have HB1 := Lib.hid (Nat.le_trans HB0.out HW1.out.size)
            clear hown hgrow hnil hlt v0 v1 v2 v3 v4 v5
            obtain ⟨v0, v1, v2, v3, v4, v5⟩ := HV1.out
            simp only at v0 v1 v2 v3 v4 v5
            go_wp2_with fail
            go_ret
            exact ⟨_, rfl, ⟨A1, cap1, rfl, owns_low HP1.out (by have := HX.out.2.1; have := HX.out.2.2; omega)⟩, HK1.out⟩
  ·
    have HQ0 := Lib.hid (show (w0.alloc (.cells #[.int .i64 a] 3)).ownsRow B 3 1 (.slice none 0 0) 0 (intsL []) from HP0.out.alloc _)
    have HS0 := Lib.hid (show B ≤ (w0.alloc (.cells #[.int .i64 a] 3)).heap.size by rw [nblk_alloc]; have := HB0.out; omega)
    have HA0 := Lib.hid ((Keeps.refl (fun _ => False) w0).alloc (.cells #[.int .i64 a] 3))
    have HC0 := Lib.hid (fun j u hj => cells_new w0 [.int .i64 a] 3 j u hj)
    go_wp2_with (at_builtin; go_loud (refine wpList_append_own _ rfl _ _ 157 rfl B 3 i0 _ 1 8 Tryz.underlying157 hi hz0 hz1 hz2 rfl (by decide) (.slice none 0 0) 0 (intsL []) rfl HQ0.out ⟨w0.heap.size, 0, none⟩ 1 1 [.int .i64 a] rfl rfl HC0.out (ints_cell a) (by decide) (by decide) HS0.out ?c0))
    case c0 =>
      intro v' w1 hown hgrow hnil
      obtain ⟨A1, cap1, rfl⟩ := owns_slice hown
      have hlt := HQ0.out.lt
      have HW1 := Lib.hid (show Keeps (fun k => B ≤ k) w0 w1 from ((HA0.out.mono (fun _ _ h => h.elim)).grown hgrow (fun k hk _ => (hlt k hk).1)))
      have HK1 := Lib.hid (show Keeps (fun _ => False) w w1 from HK0.out.trans HW1.out (fun b hb h => by have h : B ≤ b := h; have := HX.out.2.1; have := HX.out.2.2; omega))
      have HV1 := Lib.hid (HV0.out.keep HW1.out (by have := HX.out.1; omega))
      have HP1 := Lib.hid (show w1.ownsRow B 3 1 (.slice A1 1 cap1) 1 (intsL [a]) from hown)
      have HB1 := Lib.hid (Nat.le_trans HB0.out HW1.out.size)
      clear hown hgrow hnil hlt v0 v1 v2 v3 v4 v5
      obtain ⟨v0, v1, v2, v3, v4, v5⟩ := HV1.out
      simp only at v0 v1 v2 v3 v4 v5
      go_wp2_with fail
      refine (HIB.out _).mono ?_
      rintro e w' ⟨rfl, hw'⟩
      obtain rfl := hw'.symm
      cases pb
      ·
        go_wp2_with fail
        refine (HD.out _).mono ?_
        rintro e w' ⟨rfl, hw'⟩
        obtain rfl := hw'.symm
        cases pd
        ·
          go_wp2_with fail
          go_ret
          exact ⟨_, rfl, ⟨A1, cap1, rfl, owns_low HP1.out (by have := HX.out.2.1; have := HX.out.2.2; omega)⟩, HK1.out⟩
        ·
          have HQ1 := Lib.hid (show (w1.alloc (.cells #[.int .i64 d] 3)).ownsRow B 3 1 (.slice A1 1 cap1) 1 (intsL [a]) from HP1.out.alloc _)
          have HS1 := Lib.hid (show B ≤ (w1.alloc (.cells #[.int .i64 d] 3)).heap.size by rw [nblk_alloc]; have := HB1.out; omega)
          have HA1 := Lib.hid ((Keeps.refl (fun _ => False) w1).alloc (.cells #[.int .i64 d] 3))
          have HC1 := Lib.hid (fun j u hj => cells_new w1 [.int .i64 d] 3 j u hj)
          go_wp2_with (at_builtin; go_loud (refine wpList_append_own _ rfl _ _ 157 rfl B 3 i0 _ 1 8 Tryz.underlying157 hi hz0 hz1 hz2 rfl (by decide) (.slice A1 1 cap1) 1 (intsL [a]) rfl HQ1.out ⟨w1.heap.size, 0, none⟩ 1 1 [.int .i64 d] rfl rfl HC1.out (ints_cell d) (by decide) (by decide) HS1.out ?c1))
          case c1 =>
            intro v' w2 hown hgrow hnil
            obtain ⟨A2, cap2, rfl⟩ := owns_slice hown
            have hlt := HQ1.out.lt
            have HW2 := Lib.hid (show Keeps (fun k => B ≤ k) w1 w2 from ((HA1.out.mono (fun _ _ h => h.elim)).grown hgrow (fun k hk _ => (hlt k hk).1)))
            have HK2 := Lib.hid (show Keeps (fun _ => False) w w2 from HK1.out.trans HW2.out (fun b hb h => by have h : B ≤ b := h; have := HX.out.2.1; have := HX.out.2.2; omega))
            have HV2 := Lib.hid (HV1.out.keep HW2.out (by have := HX.out.1; omega))
            have HP2 := Lib.hid (show w2.ownsRow B 3 1 (.slice A2 2 cap2) 2 (intsL [a, d]) from hown)
            have HB2 := Lib.hid (Nat.le_trans HB1.out HW2.out.size)
            clear hown hgrow hnil hlt v0 v1 v2 v3 v4 v5
            obtain ⟨v0, v1, v2, v3, v4, v5⟩ := HV2.out
            simp only at v0 v1 v2 v3 v4 v5
            go_wp2_with fail
            go_ret
            exact ⟨_, rfl, ⟨A2, cap2, rfl, owns_low HP2.out (by have := HX.out.2.1; have := HX.out.2.2; omega)⟩, HK2.out⟩
      ·
        cases p5
        ·
          have HQ1 := Lib.hid (show (w1.alloc (.cells #[.int .i64 b] 3)).ownsRow B 3 1 (.slice A1 1 cap1) 1 (intsL [a]) from HP1.out.alloc _)
          have HS1 := Lib.hid (show B ≤ (w1.alloc (.cells #[.int .i64 b] 3)).heap.size by rw [nblk_alloc]; have := HB1.out; omega)
          have HA1 := Lib.hid ((Keeps.refl (fun _ => False) w1).alloc (.cells #[.int .i64 b] 3))
          have HC1 := Lib.hid (fun j u hj => cells_new w1 [.int .i64 b] 3 j u hj)
          go_wp2_with (at_builtin; go_loud (refine wpList_append_own _ rfl _ _ 157 rfl B 3 i0 _ 1 8 Tryz.underlying157 hi hz0 hz1 hz2 rfl (by decide) (.slice A1 1 cap1) 1 (intsL [a]) rfl HQ1.out ⟨w1.heap.size, 0, none⟩ 1 1 [.int .i64 b] rfl rfl HC1.out (ints_cell b) (by decide) (by decide) HS1.out ?c1))
          case c1 =>
            intro v' w2 hown hgrow hnil
            obtain ⟨A2, cap2, rfl⟩ := owns_slice hown
            have hlt := HQ1.out.lt
            have HW2 := Lib.hid (show Keeps (fun k => B ≤ k) w1 w2 from ((HA1.out.mono (fun _ _ h => h.elim)).grown hgrow (fun k hk _ => (hlt k hk).1)))
            have HK2 := Lib.hid (show Keeps (fun _ => False) w w2 from HK1.out.trans HW2.out (fun b hb h => by have h : B ≤ b := h; have := HX.out.2.1; have := HX.out.2.2; omega))
            have HV2 := Lib.hid (HV1.out.keep HW2.out (by have := HX.out.1; omega))
            have HP2 := Lib.hid (show w2.ownsRow B 3 1 (.slice A2 2 cap2) 2 (intsL [a, b]) from hown)
            have HB2 := Lib.hid (Nat.le_trans HB1.out HW2.out.size)
            clear hown hgrow hnil hlt v0 v1 v2 v3 v4 v5
            obtain ⟨v0, v1, v2, v3, v4, v5⟩ := HV2.out
            simp only at v0 v1 v2 v3 v4 v5
            go_wp2_with fail
            refine (HD.out _).mono ?_
            rintro e w' ⟨rfl, hw'⟩
            obtain rfl := hw'.symm
            cases pd
            ·
              go_wp2_with fail
              go_ret
              exact ⟨_, rfl, ⟨A2, cap2, rfl, owns_low HP2.out (by have := HX.out.2.1; have := HX.out.2.2; omega)⟩, HK2.out⟩
            ·
              have HQ2 := Lib.hid (show (w2.alloc (.cells #[.int .i64 d] 3)).ownsRow B 3 1 (.slice A2 2 cap2) 2 (intsL [a, b]) from HP2.out.alloc _)
              have HS2 := Lib.hid (show B ≤ (w2.alloc (.cells #[.int .i64 d] 3)).heap.size by rw [nblk_alloc]; have := HB2.out; omega)
              have HA2 := Lib.hid ((Keeps.refl (fun _ => False) w2).alloc (.cells #[.int .i64 d] 3))
              have HC2 := Lib.hid (fun j u hj => cells_new w2 [.int .i64 d] 3 j u hj)
              go_wp2_with (at_builtin; go_loud (refine wpList_append_own _ rfl _ _ 157 rfl B 3 i0 _ 1 8 Tryz.underlying157 hi hz0 hz1 hz2 rfl (by decide) (.slice A2 2 cap2) 2 (intsL [a, b]) rfl HQ2.out ⟨w2.heap.size, 0, none⟩ 1 1 [.int .i64 d] rfl rfl HC2.out (ints_cell d) (by decide) (by decide) HS2.out ?c2))
              case c2 =>
                intro v' w3 hown hgrow hnil
                obtain ⟨A3, cap3, rfl⟩ := owns_slice hown
                have hlt := HQ2.out.lt
                have HW3 := Lib.hid (show Keeps (fun k => B ≤ k) w2 w3 from ((HA2.out.mono (fun _ _ h => h.elim)).grown hgrow (fun k hk _ => (hlt k hk).1)))
                have HK3 := Lib.hid (show Keeps (fun _ => False) w w3 from HK2.out.trans HW3.out (fun b hb h => by have h : B ≤ b := h; have := HX.out.2.1; have := HX.out.2.2; omega))
                have HV3 := Lib.hid (HV2.out.keep HW3.out (by have := HX.out.1; omega))
                have HP3 := Lib.hid (show w3.ownsRow B 3 1 (.slice A3 3 cap3) 3 (intsL [a, b, d]) from hown)
                have HB3 := Lib.hid (Nat.le_trans HB2.out HW3.out.size)
                clear hown hgrow hnil hlt v0 v1 v2 v3 v4 v5
                obtain ⟨v0, v1, v2, v3, v4, v5⟩ := HV3.out
                simp only at v0 v1 v2 v3 v4 v5
                go_wp2_with fail
                go_ret
                exact ⟨_, rfl, ⟨A3, cap3, rfl, owns_low HP3.out (by have := HX.out.2.1; have := HX.out.2.2; omega)⟩, HK3.out⟩
        ·
          go_wp2_with fail
          refine (HD.out _).mono ?_
          rintro e w' ⟨rfl, hw'⟩
          obtain rfl := hw'.symm
          cases pd
          ·
            go_wp2_with fail
            go_ret
            exact ⟨_, rfl, ⟨A1, cap1, rfl, owns_low HP1.out (by have := HX.out.2.1; have := HX.out.2.2; omega)⟩, HK1.out⟩
          ·
            have HQ1 := Lib.hid (show (w1.alloc (.cells #[.int .i64 d] 3)).ownsRow B 3 1 (.slice A1 1 cap1) 1 (intsL [a]) from HP1.out.alloc _)
            have HS1 := Lib.hid (show B ≤ (w1.alloc (.cells #[.int .i64 d] 3)).heap.size by rw [nblk_alloc]; have := HB1.out; omega)
            have HA1 := Lib.hid ((Keeps.refl (fun _ => False) w1).alloc (.cells #[.int .i64 d] 3))
            have HC1 := Lib.hid (fun j u hj => cells_new w1 [.int .i64 d] 3 j u hj)
            go_wp2_with (at_builtin; go_loud (refine wpList_append_own _ rfl _ _ 157 rfl B 3 i0 _ 1 8 Tryz.underlying157 hi hz0 hz1 hz2 rfl (by decide) (.slice A1 1 cap1) 1 (intsL [a]) rfl HQ1.out ⟨w1.heap.size, 0, none⟩ 1 1 [.int .i64 d] rfl rfl HC1.out (ints_cell d) (by decide) (by decide) HS1.out ?c1))
            case c1 =>
              intro v' w2 hown hgrow hnil
              obtain ⟨A2, cap2, rfl⟩ := owns_slice hown
              have hlt := HQ1.out.lt
              have HW2 := Lib.hid (show Keeps (fun k => B ≤ k) w1 w2 from ((HA1.out.mono (fun _ _ h => h.elim)).grown hgrow (fun k hk _ => (hlt k hk).1)))
              have HK2 := Lib.hid (show Keeps (fun _ => False) w w2 from HK1.out.trans HW2.out (fun b hb h => by have h : B ≤ b := h; have := HX.out.2.1; have := HX.out.2.2; omega))
              have HV2 := Lib.hid (HV1.out.keep HW2.out (by have := HX.out.1; omega))
              have HP2 := Lib.hid (show w2.ownsRow B 3 1 (.slice A2 2 cap2) 2 (intsL [a, d]) from hown)
              have HB2 := Lib.hid (Nat.le_trans HB1.out HW2.out.size)
              clear hown hgrow hnil hlt v0 v1 v2 v3 v4 v5
              obtain ⟨v0, v1, v2, v3, v4, v5⟩ := HV2.out
              simp only at v0 v1 v2 v3 v4 v5
              go_wp2_with fail
              go_ret
              exact ⟨_, rfl, ⟨A2, cap2, rfl, owns_low HP2.out (by have := HX.out.2.1; have := HX.out.2.2; omega)⟩, HK2.out⟩
end Go.Proofs.YtgmbladcoikffaaGreatDoor

/- IsDead -/
/- The walk of the reference's isDead. -/
namespace Go.Proofs.YtgmbladcoikffaaGreatDoor
open Go.RowKit Go.Deep
set_option linter.unusedVariables false
set_option linter.unusedSimpArgs false

theorem contains_not {l : List Int} {d : Int} (h : ∀ p, p < l.length → l.getD p 0 ≠ d) : l.contains d = false := by
  rw [Bool.eq_false_iff]
  intro hc
  rw [List.contains_iff_mem] at hc
  obtain ⟨p, hp, he⟩ := List.getElem_of_mem hc
  exact h p hp (by rw [List.getD_eq_getElem?_getD, List.getElem?_eq_getElem hp]; exact he)
theorem contains_yes {l : List Int} {d : Int} {p : Nat} (hp : p < l.length) (h : l.getD p 0 = d) : l.contains d = true := by
  rw [List.contains_iff_mem]
  rw [List.getD_eq_getElem?_getD, List.getElem?_eq_getElem hp] at h
  rw [← h]
  exact List.getElem_mem hp
set_option maxHeartbeats 2000000 in
set_option maxRecDepth 100000 in
theorem isDead_any (A : Option Addr) (n cap : Nat) (l : List Ir.Op) (i : Nat) (w : World) (V : OpsAt w A n cap l) (hi : i < n) (hc : cap ≤ 9223372036854775807) :
    Calls Tryz.prog 65 #[.slice A n cap, .int .i64 i] w fun e w' => e = .returned (.bool (Ir.dead l i)) ∧ Keeps (fun _ => False) w w' := by
  have HV := Lib.hid V
  have hn := V.le
  have HL := Lib.hid V.len
  obtain ⟨bb, oo, rfl, _⟩ := V.get hi
  have HVG := Lib.hid (fun (w' : World) (k : Keeps (fun _ => False) w w') p (hp : p < n) => (HV.out.quiet k).get hp)
  obtain ⟨_, _, hbb, e0, e1, e2, e3, e4, e5⟩ := V.get hi
  obtain ⟨rfl, rfl⟩ : bb = _ ∧ oo = _ := by injection hbb with h; injection h with h1 h2; exact ⟨h1, h2⟩
  clear hbb V
  obtain ⟨r, hr⟩ : ∃ r, Ir.dead l i = r := ⟨_, rfl⟩
  rw [hr]
  unfold Ir.dead at hr
  rw [plainK_c] at hr
  obtain ⟨op, hop⟩ : ∃ op, l.getD i Ir.nop = op := ⟨_, rfl⟩
  rw [hop] at e0 e1 e2 e3 e4 e5 hr
  clear hop
  obtain ⟨k, d, a, b, im, t⟩ := op
  simp only at e0 e1 e2 e3 e4 e5 hr
  have h1 := is_set k
  have h2 := is_copy k
  have HS := Lib.hid (fun w => isSum_any k w)
  have HN := Lib.hid (op_new w k d a b im t 85)
  generalize Ir.isSum (Ir.kn k) = ps at *
  generalize (Ir.kn k == 1) = p1 at *
  generalize (Ir.kn k == 2) = p2 at *
  have h1n : (k.toList != [115, 101, 116]) = !p1 := by rw [bne, h1]
  have h2n : (k.toList != [99, 111, 112, 121]) = !p2 := by rw [bne, h2]
  have HR := Lib.hid hr
  clear hr
  go_enter Tryz.func65, Tryz.ntmps65
  go_upto_region 2 with fail
  obtain ⟨hV, hK⟩ := HN.out
  generalize w.alloc _ = w1 at *
  generalize w.heap.size = y at *
  obtain ⟨v0, v1, v2, v3, v4, v5⟩ := hV
  simp only at v0 v1 v2 v3 v4 v5
  have HK := Lib.hid hK
  clear hK HN e0 e1 e2 e3 e4 e5
  go_wp2_with fail
  refine (HS.out _).mono ?_
  rintro e w' ⟨rfl, hw'⟩
  obtain rfl := hw'.symm
  go_upto_region 3 with fail
  go_cut [29] (fun s29 wx => s29 = .bool (!(p1 || p2 || ps)) ∧ wx = w1)
  case first =>
    cases p1 <;> cases p2 <;> cases ps
    all_goals
      go_wp2_with fail
      go_meet
      exact ⟨rfl, rfl⟩
  case rest =>
    obtain ⟨rfl, rfl⟩ := hcut
    clear h1 h2 h1n h2n
    generalize (p1 || p2 || ps) = pk at *
    cases pk
    · go_wp2_with fail
      go_ret
      exact ⟨by rw [← HR.out]; rfl, HK.out⟩
    · rw [show (Value.bool (!true)) = Value.bool false from rfl]
      have hr := HR.out
      rw [Bool.true_and] at hr
      have HR2 := Lib.hid hr
      have HY := Lib.hid (show OpAt wc y ⟨k, d, a, b, im, t⟩ from ⟨v0, v1, v2, v3, v4, v5⟩)
      clear hr HR v0 v1 v2 v3 v4 v5
      go_wp2_with fail
      go_loopw [7, 8] (fun s7 s8 wr => ∃ (j c : Nat), i + 1 ≤ j ∧ j ≤ n ∧ c ≤ j ∧ s8 = .int .i64 j ∧ s7 = .int .i64 c ∧ r = Ir.deadGo d (l.drop j) (!(c == 0)) ∧ Keeps (fun _ => False) wc wr) (fun _ s8 _ => n - (intOf s8).toNat)
      case atStart => exact ⟨i + 1, 0, by omega, by omega, by omega, by go_num, rfl, HR2.out.symm, Keeps.refl _ _⟩
      case round =>
        obtain ⟨j, c, hj1, hj2, hcj, rfl, rfl, hrj, hKj⟩ := hrel
        obtain ⟨wo, rfl⟩ : ∃ wo, wo = wr := ⟨wr, rfl⟩
        have HRJ := Lib.hid hrj
        have HKJ := Lib.hid (HK.out.trans hKj (fun _ _ h => h))
        have HKL := Lib.hid hKj
        clear hrj hKj
        by_cases hlt : j < n
        · have HYJ := Lib.hid (HY.out.keep HKL.out (fun h => h))
          have HST := Lib.hid (deadGo_step d l j (by have := HL.out; omega) (!(c == 0)))
          obtain ⟨b3, o3, hbb, hx⟩ := HVG.out _ HKJ.out j hlt
          obtain ⟨rfl, rfl⟩ : bb = b3 ∧ oo = o3 := by injection hbb with h; injection h with h1 h2; exact ⟨h1, h2⟩
          clear hbb
          obtain ⟨x, hxx⟩ : ∃ x, l.getD j Ir.nop = x := ⟨_, rfl⟩
          rw [hxx] at hx HST
          clear hxx
          have HXL := Lib.hid hx
          obtain ⟨e0, e1, e2, e3, e4, e5⟩ := hx
          have HRD := Lib.hid (fun w => readsOf_any x w)
          have HWT := Lib.hid (fun w => writeOf_any x w)
          have h7 := is_if x.k
          obtain ⟨wt, hwt⟩ : ∃ b, Ir.writes x = b := ⟨_, rfl⟩
          rw [hwt] at HST HWT
          clear hwt
          have HCN := Lib.hid (fun h => contains_not (l := Ir.reads x) (d := d) h)
          have HCY := Lib.hid (fun p hp h => contains_yes (l := Ir.reads x) (d := d) (p := p) hp h)
          have hle3 := reads_le x
          generalize (Ir.kn x.k == 7) = p7 at *
          go_wp2_with fail
          refine (HRD.out _).mono ?_
          rintro e w2 ⟨v, rfl, hv, hk2⟩
          obtain ⟨A2, cap2, rfl, hcap2, hrd⟩ := hv.reads
          have HRR := Lib.hid hrd
          have HK2 := Lib.hid hk2
          generalize Ir.reads x = rl at *
          obtain ⟨m, hm⟩ : ∃ m, rl.length = m := ⟨_, rfl⟩
          rw [hm] at HRR hle3 ⊢
          have HM := Lib.hid hm
          unfold maxLen at hcap2
          clear hv hrd hk2 hm e0 e1 e2 e3 e4 e5
          go_wp2_with fail
          go_loopw [10] (fun s10 wq => ∃ q : Nat, q ≤ m ∧ s10 = .int .i64 q ∧ (∀ p, p < q → rl.getD p 0 ≠ d) ∧ Keeps (fun _ => False) w2 wq) (fun s10 _ => m - (intOf s10).toNat)
          case atStart => exact ⟨0, by omega, rfl, fun p hp => absurd hp (Nat.not_lt_zero _), Keeps.refl _ _⟩
          case round =>
            obtain ⟨q, hq, rfl, hz, hKq⟩ := hrel
            have HZ := Lib.hid hz
            have HKQ2 := Lib.hid hKq
            have HKQ := Lib.hid (HK2.out.trans hKq (fun _ _ h => h))
            have HYQ := Lib.hid (HYJ.out.keep HKQ.out (fun h => h))
            clear hz
            by_cases hq2 : q < m
            · obtain ⟨hle, h0 | ⟨rb, ro, rfl, hb, hcells⟩⟩ := HRR.out.keep hKq (fun _ _ _ h => h)
              · omega
              have c0 := hcells q hq2
              have yd := HYQ.out.v1
              simp only at c0 yd
              have hqc : q < cap2 := by omega
              obtain ⟨u, hu⟩ : ∃ u, rl.getD q 0 = u := ⟨_, rfl⟩
              rw [hu] at c0
              have HU := Lib.hid hu
              clear hu hcells hb hKq
              go_upto_region 13 with fail
              go_region_held3 (fun w' => Keeps (fun _ => False) wr w' ∧ w'.cell? ⟨rb, ro + q, none⟩ = some (.int .i64 u) ∧ w'.cell? ⟨y, 1, none⟩ = some (.int .i64 d))
                (first | (refine ⟨?_, ?_, ?_⟩ <;> first | ((repeat (first | exact Keeps.refl _ _ | assumption | apply Keeps.drew | apply Keeps.drewN | apply Keeps.alloc | (refine Keeps.trans ?_ (by assumption) (fun _ _ h => h)))); done) | (refine Keeps.cell' (S := fun _ => False) (w := wr) ?_ (by assumption) (fun f => f); (repeat (first | exact Keeps.refl _ _ | assumption | apply Keeps.drew | apply Keeps.drewN | apply Keeps.alloc | (refine Keeps.trans ?_ (by assumption) (fun _ _ h => h)))); done)) | (trace_state; fail))
                (fail)
              rename_i hh
              have HKR := Lib.hid (HKQ2.out.trans hh.1 (fun _ _ h => h))
              clear hh c0 yd
              by_cases he : u = d
              · have t1 : (u == d) = true := by simpa using he
                have HRE := Lib.hid (show r = false by
                  rw [HRJ.out, HST.out, HCY.out q (by rw [HM.out]; exact hq2) (HU.out.trans he)]
                  rfl)
                clear he
                go_wp2_with fail
                go_ret
                exact ⟨by rw [HRE.out]; rfl, HKJ.out.trans (HK2.out.trans HKR.out (fun _ _ h => h)) (fun _ _ h => h)⟩
              · have t1 : (u == d) = false := by simpa using he
                have HNE := Lib.hid he
                clear he
                go_wp2_with fail
                go_roundw
                case rel => exact ⟨q + 1, by omega, by go_num, fun p hp => by
                  by_cases e : p = q
                  · subst e; rw [HU.out]; exact HNE.out
                  · exact HZ.out p (by omega), HKR.out⟩
                case measure => simp [intOf]; omega
            · obtain rfl : q = m := by omega
              have hst := HST.out
              rw [HCN.out (fun p hp => HZ.out p (by rw [HM.out] at hp; exact hp)), if_neg (by decide)] at hst
              have HS2 := Lib.hid hst
              clear hst HST hKq
              obtain ⟨e0, e1, e2, e3, e4, e5⟩ := HXL.out.keep HKQ.out (fun h => h)
              have yd := HYQ.out.v1
              simp only at yd
              go_upto_region 15 with fail
              go_region_held3 (fun w' => Keeps (fun _ => False) wr w' ∧ w'.cell? ⟨bb, oo + j * 6, none⟩ = some (.string x.k) ∧ w'.cell? ⟨bb, oo + j * 6 + 1, none⟩ = some (.int .i64 x.d) ∧ w'.cell? ⟨bb, oo + j * 6 + 2, none⟩ = some (.int .i64 x.a) ∧ w'.cell? ⟨bb, oo + j * 6 + 3, none⟩ = some (.int .i64 x.b) ∧ w'.cell? ⟨bb, oo + j * 6 + 4, none⟩ = some (.int .u32 x.imm) ∧ w'.cell? ⟨bb, oo + j * 6 + 5, none⟩ = some (.int .i64 x.at_) ∧ w'.cell? ⟨y, 1, none⟩ = some (.int .i64 d))
                (first | (refine ⟨?_, ?_, ?_, ?_, ?_, ?_, ?_, ?_⟩ <;> first | ((repeat (first | exact Keeps.refl _ _ | assumption | apply Keeps.drew | apply Keeps.drewN | apply Keeps.alloc | (refine Keeps.trans ?_ (by assumption) (fun _ _ h => h)))); done) | (refine Keeps.cell' (S := fun _ => False) (w := wr) ?_ (by assumption) (fun f => f); (repeat (first | exact Keeps.refl _ _ | assumption | apply Keeps.drew | apply Keeps.drewN | apply Keeps.alloc | (refine Keeps.trans ?_ (by assumption) (fun _ _ h => h)))); done)) | (trace_state; fail))
                (first | (go_at_call 76; refine (HWT.out _).mono ?_; rintro e w8 ⟨rfl, hk8⟩))
              rename_i hh
              have hkr := hh.1
              have HKW := Lib.hid (HKQ.out.trans hkr (fun _ _ h => h))
              clear hh e0 e1 e2 e3 e4 e5 yd hkr
              obtain ⟨v0, v1, v2, v3, v4, v5⟩ := HYJ.out.keep HKW.out (fun h => h)
              obtain ⟨e0, e1, e2, e3, e4, e5⟩ := HXL.out.keep HKW.out (fun h => h)
              simp only at v0 v1 v2 v3 v4 v5
              by_cases hwd : wt = d
              · have HRE := Lib.hid (show r = (decide (33 < d) || (c == 0)) by
                  rw [HRJ.out, HS2.out, if_pos hwd, Bool.not_not])
                have t1 : (wt == d) = true := by simpa using hwd
                clear hwd
                by_cases h33 : 33 < d
                · have t3 : decide (33 < d) = true := decide_eq_true h33
                  have HRE2 := Lib.hid (show r = true by rw [HRE.out, t3]; rfl)
                  clear h33 HRE
                  go_wp2_with fail
                  go_ret
                  exact ⟨by rw [HRE2.out]; rfl, HKJ.out.trans HKW.out (fun _ _ h => h)⟩
                · have t3 : decide (33 < d) = false := decide_eq_false h33
                  have t4 : ((c : Int) == 0) = (c == 0) := by
                    rw [Bool.eq_iff_iff]
                    simp
                    try omega
                  have HRE2 := Lib.hid (show r = (c == 0) by rw [HRE.out, t3]; rfl)
                  clear h33 HRE
                  generalize (c == 0) = cz at *
                  go_wp2_with fail
                  go_ret
                  exact ⟨by rw [HRE2.out]; rfl, HKJ.out.trans HKW.out (fun _ _ h => h)⟩
              · have t1 : (wt == d) = false := by simpa using hwd
                have HRE := Lib.hid (show r = Ir.deadGo d (l.drop (j + 1)) (!(c == 0) || p7) by rw [HRJ.out, HS2.out, if_neg hwd])
                clear hwd
                cases p7
                · go_wp2_with fail
                  go_roundw
                  case rel => exact ⟨j + 1, c, by omega, by omega, by omega, by go_num, rfl, by rw [HRE.out, Bool.or_false], HKL.out.trans HKW.out (fun _ _ h => h)⟩
                  case measure => simp [intOf]; omega
                · go_wp2_with fail
                  go_roundw
                  case rel => exact ⟨j + 1, c + 1, by omega, by omega, by omega, by go_num, by go_num, by rw [HRE.out, Bool.or_true]; rfl, HKL.out.trans HKW.out (fun _ _ h => h)⟩
                  case measure => simp [intOf]; omega
        · obtain rfl : j = n := by omega
          have hje : l.drop j = [] := List.drop_eq_nil_of_le (by have := HL.out; omega)
          have HRE := Lib.hid (show r = decide (33 < d) by rw [HRJ.out, hje]; rfl)
          obtain ⟨v0, v1, v2, v3, v4, v5⟩ := HY.out.keep HKL.out (fun h => h)
          simp only at v0 v1 v2 v3 v4 v5
          clear hje
          go_wp2_with fail
          go_ret
          exact ⟨by rw [HRE.out]; rfl, HKJ.out⟩
end Go.Proofs.YtgmbladcoikffaaGreatDoor

/- DeadOf -/
/- The walk of the reference's DeadOf. -/
namespace Go.Proofs.YtgmbladcoikffaaGreatDoor
open Go.RowKit Go.Deep
set_option linter.unusedVariables false
set_option linter.unusedSimpArgs false

theorem range_stepd (p : Nat → Bool) (i : Nat) : (List.range (i + 1)).countP p = (List.range i).countP p + (if p i = true then 1 else 0) := by
  rw [List.range_succ, List.countP_append, List.countP_singleton]
theorem range_led (p : Nat → Bool) (i : Nat) : (List.range i).countP p ≤ i := by
  have := List.countP_le_length (p := p) (l := List.range i)
  simpa using this
set_option maxHeartbeats 2000000 in
set_option maxRecDepth 100000 in
theorem deadOf_any (A : Option Addr) (n cap : Nat) (l : List Ir.Op) (w : World) (V : OpsAt w A n cap l) (hc : cap ≤ 9223372036854775807) :
    Calls Tryz.prog 27 #[.slice A n cap] w fun e w' => e = .returned (.int .i64 (Ir.deads l)) ∧ Keeps (fun _ => False) w w' := by
  have HV := Lib.hid V
  have hn := V.le
  have HL := Lib.hid V.len
  clear V
  go_enter Tryz.func27, Tryz.ntmps27
  go_wp2_with fail
  go_loopw [4, 3] (fun s4 s3 wr => ∃ i : Nat, i ≤ n ∧ s4 = .int .i64 i ∧ s3 = .int .i64 ((List.range i).countP (Ir.dead l) : Nat) ∧ Keeps (fun _ => False) w wr) (fun s4 _ _ => n - (intOf s4).toNat)
  case atStart => exact ⟨0, by omega, rfl, rfl, Keeps.refl _ _⟩
  case round =>
    obtain ⟨i, hi, rfl, rfl, hKi⟩ := hrel
    have HKI := Lib.hid hKi
    have HST := Lib.hid (range_stepd (Ir.dead l) i)
    have hle := range_led (Ir.dead l) i
    obtain ⟨q, hq⟩ : ∃ q, (List.range i).countP (Ir.dead l) = q := ⟨_, rfl⟩
    rw [hq] at HST hle
    rw [hq]
    have HQ := Lib.hid hq
    clear hq
    by_cases hlt : i < n
    · have HDD := Lib.hid (isDead_any A n cap l i wr (HV.out.quiet hKi) hlt hc)
      obtain ⟨dd, hdd⟩ : ∃ b, Ir.dead l i = b := ⟨_, rfl⟩
      rw [hdd] at HDD HST
      clear hdd hKi
      go_wp2_with fail
      refine HDD.out.mono ?_
      rintro e w3 ⟨rfl, hk3⟩
      have HK3 := Lib.hid (HKI.out.trans hk3 (fun _ _ h => h))
      clear hk3
      cases dd
      all_goals
        go_wp2_with fail
        go_roundw
        case rel => exact ⟨i + 1, by omega, by go_num, by rw [HST.out]; simp, HK3.out⟩
        case measure => simp [intOf]; omega
    · obtain rfl : i = n := by omega
      have HRE := Lib.hid (show Ir.deads l = q by rw [← HQ.out]; unfold Ir.deads; rw [HL.out])
      clear hKi
      go_wp2_with fail
      go_ret
      exact ⟨by rw [HRE.out]; rfl, HKI.out⟩
end Go.Proofs.YtgmbladcoikffaaGreatDoor

/- KnownOf -/
/- The walk of the reference's KnownOf. -/
namespace Go.Proofs.YtgmbladcoikffaaGreatDoor
open Go.RowKit Go.Deep
set_option linter.unusedVariables false
set_option linter.unusedSimpArgs false

theorem OpsAt.take {w : World} {A : Option Addr} {n cap : Nat} {l : List Ir.Op} (V : OpsAt w A n cap l) (i : Nat) (hi : i ≤ n) : OpsAt w A i cap (l.take i) := by
  obtain ⟨h1, h2, h3⟩ := V
  refine ⟨by rw [List.length_take]; omega, by omega, ?_⟩
  rcases h3 with h3 | ⟨b, o, rfl, hb, hc⟩
  · exact .inl h3
  · refine .inr ⟨b, o, rfl, hb, fun j hj => ?_⟩
    have e : (l.take i).getD j Ir.nop = l.getD j Ir.nop := by
      rw [List.getD_eq_getElem?_getD, List.getD_eq_getElem?_getD, List.getElem?_take_of_lt hj]
    rw [e]
    exact hc j (by omega)
theorem foldable_ck (f : Ir.Facts) (o : Ir.Op) : Ir.foldable f o = if (!Ir.isSum (Ir.kn o.k) || Ir.isDiv (Ir.kn o.k)) = true then false else (Ir.fof f o.a).isSome && (Ir.fof f o.b).isSome := by
  unfold Ir.foldable
  cases Ir.isSum (Ir.kn o.k) <;> cases Ir.isDiv (Ir.kn o.k) <;> simp
theorem range_stepk (p : Nat → Bool) (i : Nat) : (List.range (i + 1)).countP p = (List.range i).countP p + (if p i = true then 1 else 0) := by
  rw [List.range_succ, List.countP_append, List.countP_singleton]
theorem range_lek (p : Nat → Bool) (i : Nat) : (List.range i).countP p ≤ i := by
  have := List.countP_le_length (p := p) (l := List.range i)
  simpa using this
set_option maxHeartbeats 4000000 in
set_option maxRecDepth 100000 in
theorem knownOf_any (A : Option Addr) (n cap : Nat) (l : List Ir.Op) (w : World) (V : OpsAt w A n cap l) (hc : cap ≤ 9223372036854775807) :
    Calls Tryz.prog 26 #[.slice A n cap] w fun e w' => e = .returned (.int .i64 (Ir.known l)) ∧ Keeps (fun _ => False) w w' := by
  have HV := Lib.hid V
  have hn := V.le
  have HL := Lib.hid V.len
  clear V
  go_enter Tryz.func26, Tryz.ntmps26
  go_wp2_with fail
  go_loopw [4, 3] (fun s4 s3 wr => ∃ i : Nat, i ≤ n ∧ s4 = .int .i64 i ∧ s3 = .int .i64 ((List.range i).countP (fun i => Ir.foldable (Ir.factsOf (l.take i)) (l.getD i Ir.nop)) : Nat) ∧ Keeps (fun _ => False) w wr) (fun s4 _ _ => n - (intOf s4).toNat)
  case atStart => exact ⟨0, by omega, rfl, rfl, Keeps.refl _ _⟩
  case round =>
    obtain ⟨i, hi, rfl, rfl, hKi⟩ := hrel
    have HKI := Lib.hid hKi
    have HST := Lib.hid (range_stepk (fun i => Ir.foldable (Ir.factsOf (l.take i)) (l.getD i Ir.nop)) i)
    have hle := range_lek (fun i => Ir.foldable (Ir.factsOf (l.take i)) (l.getD i Ir.nop)) i
    obtain ⟨q, hq⟩ : ∃ q, (List.range i).countP (fun i => Ir.foldable (Ir.factsOf (l.take i)) (l.getD i Ir.nop)) = q := ⟨_, rfl⟩
    rw [hq] at HST hle
    rw [hq]
    have HQ := Lib.hid hq
    clear hq
    by_cases hlt : i < n
    · obtain ⟨bb, oo, rfl, e0, e1, e2, e3, e4, e5⟩ := (HV.out.quiet hKi).get hlt
      have HST2 := Lib.hid (show (List.range (i + 1)).countP (fun i => Ir.foldable (Ir.factsOf (l.take i)) (l.getD i Ir.nop)) = q + (if Ir.foldable (Ir.factsOf (l.take i)) (l.getD i Ir.nop) = true then 1 else 0) from HST.out)
      have HTK := Lib.hid (fun (w' : World) (k : Keeps (fun _ => False) w w') x => isKnown_any _ i cap (l.take i) x w' ((HV.out.quiet k).take i (by omega)) hc)
      obtain ⟨ff, hff⟩ : ∃ ff, Ir.factsOf (l.take i) = ff := ⟨_, rfl⟩
      rw [hff] at HST2 HTK
      clear hff HST hKi
      obtain ⟨op, hop⟩ : ∃ op, l.getD i Ir.nop = op := ⟨_, rfl⟩
      rw [hop] at e0 e1 e2 e3 e4 e5 HST2
      clear hop
      have HFC := Lib.hid (foldable_ck ff op)
      have HD := Lib.hid (fun w => isDiv_any op.k w)
      have HS := Lib.hid (fun w => isSum_any op.k w)
      obtain ⟨fo, hfo⟩ : ∃ b, Ir.foldable ff op = b := ⟨_, rfl⟩
      rw [hfo] at HST2 HFC
      clear hfo
      have HALR := Lib.hid ((Keeps.refl (fun _ => False) wr).alloc (.cells (opC op) 85))
      have HOAR := Lib.hid (OpAt.new wr op 85)
      generalize Ir.isSum (Ir.kn op.k) = ps at *
      generalize Ir.isDiv (Ir.kn op.k) = pd at *
      go_upto_region 6 with fail
      have hal := HALR.out
      have hoa := HOAR.out
      simp only [opC] at hal hoa
      clear HALR HOAR
      generalize wr.alloc _ = wx at *
      generalize wr.heap.size = z at *
      have HKX := Lib.hid (HKI.out.trans hal (fun _ _ h => h))
      have HZX := Lib.hid hoa
      obtain ⟨x0, x1, x2, x3, x4, x5⟩ := hoa
      clear hal e0 e1 e2 e3 e4 e5
      go_wp2_with fail
      refine (HD.out _).mono ?_
      rintro e w2 ⟨rfl, rfl⟩
      go_wp2_with fail
      refine (HS.out _).mono ?_
      rintro e w2a ⟨rfl, rfl⟩
      cases ps
      · have HF := Lib.hid (show fo = false from HFC.out)
        go_wp2_with fail
        go_roundw
        case rel => exact ⟨i + 1, by omega, by go_num, by rw [HST2.out, HF.out]; simp, HKX.out⟩
        case measure => simp [intOf]; omega
      · cases pd
        · have HF := Lib.hid (show fo = ((Ir.fof ff op.a).isSome && (Ir.fof ff op.b).isSome) from HFC.out)
          have HAK := Lib.hid (fun w' k => HTK.out w' k op.a)
          have HBK := Lib.hid (fun w' k => HTK.out w' k op.b)
          generalize (Ir.fof ff op.a).isSome = ia at *
          generalize (Ir.fof ff op.b).isSome = ib at *
          have hic : i ≤ cap := by omega
          go_upto_region 9 with fail
          go_region_held3 (fun w' => Keeps (fun _ => False) w2a w' ∧ w'.cell? ⟨z, 2, none⟩ = some (.int .i64 op.a))
            (first | (refine ⟨?_, ?_⟩ <;> first | ((repeat (first | exact Keeps.refl _ _ | assumption | apply Keeps.drew | apply Keeps.drewN | apply Keeps.alloc | (refine Keeps.trans ?_ (by assumption) (fun _ _ h => h)))); done) | (refine Keeps.cell' (S := fun _ => False) (w := w2a) ?_ (by assumption) (fun f => f); (repeat (first | exact Keeps.refl _ _ | assumption | apply Keeps.drew | apply Keeps.drewN | apply Keeps.alloc | (refine Keeps.trans ?_ (by assumption) (fun _ _ h => h)))); done)) | (trace_state; fail))
            (first | (go_at_call 64; refine (HAK.out _ ?_).mono ?_; (refine HKX.out.trans ?_ (fun _ _ h => h); (repeat (first | exact Keeps.refl _ _ | assumption | apply Keeps.drew | apply Keeps.drewN | apply Keeps.alloc | (refine Keeps.trans ?_ (by assumption) (fun _ _ h => h))))); rintro e w3 ⟨rfl, hk3⟩))
          rename_i hh
          have hkr := hh.1
          have HKX3 := Lib.hid (HKX.out.trans hkr (fun _ _ h => h))
          have HZ3 := Lib.hid (HZX.out.keep hkr (fun h => h))
          clear hh x0 x1 x2 x3 x4 x5 hk3 hkr
          obtain ⟨x0, x1, x2, x3, x4, x5⟩ := HZ3.out
          go_upto_region 10 with fail
          go_region_held3 (fun w' => Keeps (fun _ => False) w3 w' ∧ w'.cell? ⟨z, 3, none⟩ = some (.int .i64 op.b))
            (first | (refine ⟨?_, ?_⟩ <;> first | ((repeat (first | exact Keeps.refl _ _ | assumption | apply Keeps.drew | apply Keeps.drewN | apply Keeps.alloc | (refine Keeps.trans ?_ (by assumption) (fun _ _ h => h)))); done) | (refine Keeps.cell' (S := fun _ => False) (w := w3) ?_ (by assumption) (fun f => f); (repeat (first | exact Keeps.refl _ _ | assumption | apply Keeps.drew | apply Keeps.drewN | apply Keeps.alloc | (refine Keeps.trans ?_ (by assumption) (fun _ _ h => h)))); done)) | (trace_state; fail))
            (first | (go_at_call 64; refine (HBK.out _ ?_).mono ?_; (refine HKX3.out.trans ?_ (fun _ _ h => h); (repeat (first | exact Keeps.refl _ _ | assumption | apply Keeps.drew | apply Keeps.drewN | apply Keeps.alloc | (refine Keeps.trans ?_ (by assumption) (fun _ _ h => h))))); rintro e w4 ⟨rfl, hk4⟩))
          rename_i hh
          have hkr := hh.1
          have HKX4 := Lib.hid (HKX3.out.trans hkr (fun _ _ h => h))
          clear hh x0 x1 x2 x3 x4 x5 hk4 hkr
          cases ia <;> cases ib
          all_goals
            go_wp2_with fail
            go_roundw
            case rel => exact ⟨i + 1, by omega, by go_num, by rw [HST2.out, HF.out]; simp, HKX4.out⟩
            case measure => simp [intOf]; omega
        · have HF := Lib.hid (show fo = false from HFC.out)
          go_wp2_with fail
          go_roundw
          case rel => exact ⟨i + 1, by omega, by go_num, by rw [HST2.out, HF.out]; simp, HKX.out⟩
          case measure => simp [intOf]; omega
    · obtain rfl : i = n := by omega
      have HRE := Lib.hid (show Ir.known l = q by rw [← HQ.out]; unfold Ir.known; rw [HL.out])
      clear hKi
      go_wp2_with fail
      go_ret
      exact ⟨by rw [HRE.out]; rfl, HKI.out⟩
end Go.Proofs.YtgmbladcoikffaaGreatDoor

/- OptKnown -/
/- What is swept away makes nothing known that was not. No program in sight. -/
namespace Go.Proofs.YtgmbladcoikffaaGreatDoor
open Go.RowKit
set_option linter.unusedVariables false
namespace Ir
/-- is any op foldable? -/
def anyK : Facts → List Op → Bool
  | _, [] => false
  | f, o :: r => foldable f o || anyK (learn f o) r
theorem anyK_at : ∀ (l : List Op) (f : Facts), anyK f l = false ↔ ∀ i, i < l.length → foldable ((l.take i).foldl learn f) (l.getD i nop) = false
  | [], f => by simp [anyK]
  | o :: r, f => by
    have ih := anyK_at r (learn f o)
    unfold anyK
    rw [Bool.or_eq_false_iff, ih]
    constructor
    · rintro ⟨h1, h2⟩ i hi
      cases i with
      | zero => exact h1
      | succ i => exact h2 i (by simpa using hi)
    · intro h
      exact ⟨h 0 (by simp), fun i hi => h (i + 1) (by simpa using hi)⟩
theorem known_zero (l : List Op) : known l = 0 ↔ anyK none0 l = false := by
  unfold known
  rw [List.countP_eq_zero, anyK_at]
  constructor
  · intro h i hi
    have := h i (List.mem_range.2 hi)
    simpa [factsOf] using this
  · intro h i hi
    have := h i (List.mem_range.1 hi)
    rw [show factsOf (l.take i) = (l.take i).foldl learn none0 from rfl, this]
    decide
theorem anyK_append : ∀ (a b : List Op) (f : Facts), anyK f (a ++ b) = (anyK f a || anyK (a.foldl learn f) b)
  | [], b, f => by simp [anyK]
  | o :: a, b, f => by
    show (foldable f o || anyK (learn f o) (a ++ b)) = ((foldable f o || anyK (learn f o) a) || anyK ((o :: a).foldl learn f) b)
    rw [anyK_append a b (learn f o), List.foldl_cons, Bool.or_assoc]
/-- facts that are the same but of one register -/
theorem foldable_off {f g : Facts} {d : Int} {o : Op} (h : ∀ n, n ≠ d → f n = g n) (hr : (reads o).contains d = false) : foldable f o = foldable g o := by
  unfold foldable
  by_cases hs : isSum (kn o.k) = true
  · by_cases hq : isDiv (kn o.k) = true
    · rw [hq]; simp
    · have h10 : 10 ≤ kn o.k := by unfold isSum at hs; exact of_decide_eq_true hs
      have ha : o.a ≠ d := reads_a hr (by unfold hasA; simp; omega)
      have hb : o.b ≠ d := reads_b hr (by unfold hasB; simp; omega) (by omega)
      have e1 : fof f o.a = fof g o.a := by unfold fof; rw [h _ ha]
      have e2 : fof f o.b = fof g o.b := by unfold fof; rw [h _ hb]
      rw [e1, e2]
  · rw [Bool.not_eq_true] at hs
    rw [hs]
    simp
theorem anyK_off (d : Int) (hd : 1 ≤ d) : ∀ (l : List Op) (seen : Bool) (f g : Facts), (∀ n, n ≠ d → f n = g n) → deadGo d l seen = true → anyK f l = anyK g l
  | [], _, _, _, _, _ => rfl
  | x :: r, seen, f, g, h, hg => by
    unfold deadGo at hg
    split at hg
    · cases hg
    · rename_i hr
      rw [Bool.not_eq_true] at hr
      unfold anyK
      rw [foldable_off h hr]
      split at hg
      · rename_i hw
        have e : learn f x = learn g x := by
          have hne : ¬ writes x = 0 := by omega
          unfold learn
          rw [if_neg hne, if_neg hne]
          funext n
          by_cases e : n = writes x
          · rw [if_pos e, if_pos e]
          · rw [if_neg e, if_neg e, h n (by omega)]
        rw [e]
      · rename_i hw
        rw [anyK_off d hd r _ (learn f x) (learn g x) (fun n hn => by
          unfold learn
          by_cases e : writes x = 0
          · rw [if_pos e, if_pos e, h n hn]
          · rw [if_neg e, if_neg e]
            by_cases e2 : n = writes x
            · rw [if_pos e2, if_pos e2]
            · rw [if_neg e2, if_neg e2, h n hn]) hg]
theorem known_erase {many : Int} {l : List Op} {i : Nat} (hG : Good many l) (hm : ∀ o ∈ l, 0 ≤ o.imm ∧ o.imm < 4294967296) (hi : i < l.length) (hd : dead l i = true) (hk : known l = 0) : known (l.eraseIdx i) = 0 := by
  rw [known_zero] at hk ⊢
  have hio := opIn_of_good hG hm (l.getD i nop) (by rw [List.getD_eq_getElem?_getD, List.getElem?_eq_getElem hi]; exact List.getElem_mem hi)
  unfold dead at hd
  rw [Bool.and_eq_true] at hd
  obtain ⟨hp, hg⟩ := hd
  have hkk : kn (l.getD i nop).k = 1 ∨ kn (l.getD i nop).k = 2 ∨ kn (l.getD i nop).k = 5 ∨ 10 ≤ kn (l.getD i nop).k := by
    unfold plainK isSum at hp
    simp only [Bool.or_eq_true, decide_eq_true_eq] at hp
    omega
  have h1 := (hio.d hkk).1
  have e1 : l = l.take i ++ l.getD i nop :: l.drop (i + 1) := by
    rw [List.getD_eq_getElem?_getD, List.getElem?_eq_getElem hi]
    show l = l.take i ++ l[i] :: l.drop (i + 1)
    rw [← List.drop_eq_getElem_cons hi, List.take_append_drop]
  rw [List.eraseIdx_eq_take_drop_succ, anyK_append, Bool.or_eq_false_iff]
  rw [e1, anyK_append, Bool.or_eq_false_iff] at hk
  refine ⟨hk.1, ?_⟩
  have h2 := hk.2
  unfold anyK at h2
  rw [Bool.or_eq_false_iff] at h2
  rw [← h2.2]
  refine anyK_off _ h1 _ false _ _ (fun n hn => ?_) hg
  have hw : writes (l.getD i nop) = (l.getD i nop).d := writes_d hkk
  have hne : ¬ writes (l.getD i nop) = 0 := by omega
  unfold learn
  rw [if_neg hne, if_neg (by rw [hw]; exact hn)]
theorem known_sweepGo (many : Int) : ∀ (n : Nat) (l : List Op), Good many l → (∀ o ∈ l, 0 ≤ o.imm ∧ o.imm < 4294967296) → known l = 0 → known (sweepGo n l) = 0
  | 0, l, _, _, h => h
  | n + 1, l, hG, hm, h => by
    unfold sweepGo
    cases hf : firstDead l with
    | none => exact h
    | some i =>
      obtain ⟨h1, h2⟩ := firstDead_some hf
      have hp : plainK (kn (l.getD i nop).k) = true := by
        unfold dead at h2
        rw [Bool.and_eq_true] at h2
        exact h2.1
      exact known_sweepGo many n _ (good_erase hG h1 hp) (fun o ho => hm o (List.mem_of_mem_eraseIdx ho)) (known_erase hG hm h1 h2 h)
theorem known_sweep_fold {many : Int} {l : List Op} (hG : Good many l) (hm : ∀ o ∈ fold l, 0 ≤ o.imm ∧ o.imm < 4294967296) : known (sweep (fold l)) = 0 :=
  known_sweepGo many _ _ (good_fold hG) hm (known_fold l)
end Ir
end Go.Proofs.YtgmbladcoikffaaGreatDoor

/- OptEndsL -/
/- A code made better ends alike, said of runs. Printed by gen/optends.py. -/
namespace Go.Proofs.YtgmbladcoikffaaGreatDoor
open Go.RowKit Go.Deep
set_option linter.unusedVariables false
set_option linter.unusedSimpArgs false

theorem field_fault (w : World) : (Instr.field 37 (.agg #[.int .i64 0, .int .i64 (-1)]) 0).run Tryz.prog w = .ok (.int .i64 0) w := by kernel_rfl
theorem known_two {many : Int} {l : List Ir.Op} (hG : Ir.Good many l) (hok : ∀ o ∈ l, OpOk o) : Ir.known (Ir.sweep (Ir.fold l)) = 0 := by
  have := opt_ops_ok (ops_ok_good hG hok) 1
  rw [show Ir.opt l 1 = Ir.fold l by unfold Ir.opt; rw [if_neg (by decide), if_pos (by decide)]] at this
  exact Ir.known_sweep_fold hG (fun o ho => ⟨(this o ho).imm.1, Int.lt_of_le_sub_one (this o ho).imm.2⟩)
theorem singles_in {many : Int} {l : List Ir.Op} (h : Ir.Good many l) (hok : ∀ o ∈ l, OpOk o) : ∀ r ∈ l.map (fun o => [o]), (∀ o ∈ r, Ir.OpIn o) ∧ r.length < 1000000 := fun r hr => by
  have hin := Ir.opIn_of_good h (fun o ho => ⟨(hok o ho).imm.1, Int.lt_of_le_sub_one (hok o ho).imm.2⟩)
  obtain ⟨o, ho, rfl⟩ := List.mem_map.1 hr
  exact ⟨fun p hp => by rw [List.mem_singleton] at hp; subst hp; exact hin p ho, by show (1 : Nat) < 1000000; decide⟩
/-- a code made better ends alike -/
theorem opt_ends {many : Int} {l : List Ir.Op} (hG : Ir.Good many l) (hok : ∀ o ∈ l, OpOk o) (level : Int) (sp : Cp.St) (m : Nat → Int) (W : Int → Bool) (hs : Cp.Rng sp) (h0 : sp.R 0 = 0) (hc : sp.count ≤ 1099511627776) (hm : ∀ j, j < 16384 → 0 ≤ m j ∧ m j < 256) :
    (Ir.eoOf sp m many (Ir.runRows W (Ir.mc0 sp).X m (l.map fun o => [o]))).t = (Ir.eoOf sp m many (Ir.runRows W (Ir.mc0 sp).X m ((Ir.opt l level).map fun o => [o]))).t ∧
    stL (Ir.eoOf sp m many (Ir.runRows W (Ir.mc0 sp).X m ((Ir.opt l level).map fun o => [o]))).s = stL (Ir.eoOf sp m many (Ir.runRows W (Ir.mc0 sp).X m (l.map fun o => [o]))).s ∧
    (Ir.eoOf sp m many (Ir.runRows W (Ir.mc0 sp).X m ((Ir.opt l level).map fun o => [o]))).m = (Ir.eoOf sp m many (Ir.runRows W (Ir.mc0 sp).X m (l.map fun o => [o]))).m ∧
    Cp.Rng (Ir.eoOf sp m many (Ir.runRows W (Ir.mc0 sp).X m (l.map fun o => [o]))).s := by
  have him : ∀ (k : List Ir.Op), (∀ o ∈ k, OpOk o) → ∀ o ∈ k, 0 ≤ o.imm ∧ o.imm < 4294967296 := fun k hk o ho => ⟨(hk o ho).imm.1, Int.lt_of_le_sub_one (hk o ho).imm.2⟩
  have hok2 := opt_ops_ok (ops_ok_good hG hok) level
  have hokf : ∀ o ∈ Ir.fold l, OpOk o := by
    have := opt_ops_ok (ops_ok_good hG hok) 1
    rwa [show Ir.opt l 1 = Ir.fold l by unfold Ir.opt; rw [if_neg (by decide), if_pos (by decide)]] at this
  have hG2 := Ir.opt_good hG level
  have e1 := Ir.ends_of (W := W) hs hc hm hG (Ir.opIn_of_good hG (him l hok))
  have e2 := Ir.ends_of (W := W) hs hc hm hG2 (Ir.opIn_of_good hG2 (him _ hok2))
  have ha := Ir.opt_alike hG (him l hok) (him _ hokf) level m W (Ir.mc0 sp) h0
  rw [e1.same, e2.same]
  have hr := e1.rng
  generalize Ir.evGo m W (Ir.mc0 sp) l = r1 at *
  generalize Ir.evGo m W (Ir.mc0 sp) (Ir.opt l level) = r2 at *
  cases r1 with
  | trap a =>
    cases r2 with
    | trap b => exact ⟨rfl, rfl, rfl, hr⟩
    | leave p c => exact ha.elim
    | fell c => exact ha.elim
  | leave p c =>
    cases r2 with
    | trap b => exact ha.elim
    | leave p2 c2 =>
      obtain ⟨rfl, h2, h3⟩ := ha
      refine ⟨rfl, ?_, ?_, hr⟩
      · show stL (Ir.leaveSt sp ⟨c2.X, []⟩ p many) = stL (Ir.leaveSt sp ⟨c.X, []⟩ p many)
        have hx : regs c2.X = regs c.X := List.map_congr_left (fun k hk => by rw [h3 k (by have := List.mem_range.1 hk; omega)])
        unfold stL Ir.leaveSt restC
        dsimp only
        rw [hx, h3 32 (by omega), h3 33 (by omega)]
      · show Ir.pend m c2.ws = Ir.pend m c.ws
        rw [h2]
    | fell c2 => exact ha.elim
  | fell c =>
    cases r2 with
    | trap b => exact ha.elim
    | leave p c2 => exact ha.elim
    | fell c2 => exact ⟨rfl, rfl, rfl, hr⟩
end Go.Proofs.YtgmbladcoikffaaGreatDoor
