import Derived.Test.YtknhfobcejpmeaaGreatDoorPez21
import Derived.Deep.RegionHeld3
import Derived.LoopN
import Derived.Deep.CutBlock

/- MakeLay -/
/- The walk of a maker's lay. Printed by gen/makelay.py. -/
namespace Go.Proofs.YtknhfobcejpmeaaGreatDoor
open Go.RowKit Go.Deep
set_option linter.unusedVariables false
set_option linter.unusedSimpArgs false

/-- an op in a block of its own -/
def OpBox (w : World) (y : Nat) (o : Ir.Op) : Prop := w.heap[y]? = some (.cells (opC o) 100 (0, 0))
theorem OpBox.keep {S : Nat → Prop} {w w' : World} {y : Nat} {o : Ir.Op} (V : OpBox w y o) (k : Keeps S w w') (h : ¬ S y) : OpBox w' y o := (k.block y (Array.getElem?_eq_some_iff.1 V).1 h).trans V
theorem OpBox.at_ {w : World} {y : Nat} {o : Ir.Op} (V : OpBox w y o) : OpAt w y o := by
  unfold OpBox at V
  constructor <;> (unfold World.cell?; rw [V]; rfl)
theorem op_box (w : World) (k : ByteArray) (d a b im t : Int) : OpBox (w.alloc (.cells #[.string k, .int .i64 d, .int .i64 a, .int .i64 b, .int .u32 im, .int .i64 t] 100)) w.heap.size ⟨k, d, a, b, im, t⟩ ∧ Keeps (fun _ => False) w (w.alloc (.cells #[.string k, .int .i64 d, .int .i64 a, .int .i64 b, .int .u32 im, .int .i64 t] 100)) :=
  ⟨blk_alloc_new _ _, (Keeps.refl _ _).alloc _⟩
/-- behind the rows' room -/
def LayP0 (w : World) (B x bw br N y : Nat) (m : Ir.Mk) (o : Ir.Op) (pre : List (List Ir.Op)) (wx : World) : Prop :=
  ∃ v2 vs, MakerAt wx B x bw br N v2 { m with rows := pre } ∧ RowsVs wx B v2 pre vs ∧ (∀ j b, (vs.getD j (.slice none 0 0)).ownBlock = some b → b < y) ∧ OpBox wx y o ∧ Keeps (fun b => B ≤ b) w wx
/-- behind the op's row -/
def LayP1 (w : World) (B x bw br N y : Nat) (m : Ir.Mk) (o : Ir.Op) (wx : World) : Prop :=
  ∃ v2, MakerAt wx B x bw br N v2 m ∧ OpBox wx y o ∧ Keeps (fun b => B ≤ b) w wx
def opL1 (o : Ir.Op) : List Value := [.string o.k, .int .i64 o.d, .int .i64 o.a, .int .i64 o.b, .int .u32 o.imm, .int .i64 o.at_]
theorem MakerAt.mono {w : World} {B x bw br N N' : Nat} {v : Value} {m : Ir.Mk} (M : MakerAt w B x bw br N v m) (h : N ≤ N') : MakerAt w B x bw br N' v m := ⟨M.blk, M.low, M.rows, M.wr.mono h, M.rd.mono h⟩
/-- registers that are read, as they lie -/
def RdAt (w : World) (RA : Option Addr) (rn : Nat) (rs : List Int) : Prop := rn = 0 ∨ ∃ rb ro, RA = some ⟨rb, ro, none⟩ ∧ ∀ j, j < rn → w.cell? ⟨rb, ro + j, none⟩ = some (.int .i64 (rs.getD j 0))
theorem map_cell {w : World} {b c : Nat} {es : Array MapEntry} (h : w.heap[b]? = some (.map es c)) (o : Nat) : w.cell? ⟨b, o, none⟩ = none := by
  unfold World.cell?
  rw [h]
theorem RdAt.keep {w w' : World} {RA : Option Addr} {rn br : Nat} {rs : List Int} (h : RdAt w RA rn rs) (k : Keeps (· = br) w w') (hb : ∃ es c, w.heap[br]? = some (.map es c)) : RdAt w' RA rn rs := by
  rcases h with h | ⟨rb, ro, h1, h2⟩
  · exact .inl h
  · refine .inr ⟨rb, ro, h1, fun j hj => k.cell' (h2 j hj) (fun e => ?_)⟩
    obtain ⟨es, c, hm⟩ := hb
    have e : rb = br := e
    have := h2 j hj
    rw [e, map_cell hm] at this
    cases this
theorem RdAt.quiet {w w' : World} {RA : Option Addr} {rn : Nat} {rs : List Int} (h : RdAt w RA rn rs) (k : Keeps (fun _ => False) w w') : RdAt w' RA rn rs := by
  rcases h with h | ⟨rb, ro, h1, h2⟩
  · exact .inl h
  · exact .inr ⟨rb, ro, h1, fun j hj => k.cell' (h2 j hj) (fun h => h)⟩
theorem keeps_all {w w' : World} {B : Nat} (k : Keeps (fun _ => False) w w') : Keeps (fun b => B ≤ b) w w' := k.mono (fun _ _ h => h.elim)
set_option maxHeartbeats 16000000 in
set_option maxRecDepth 100000 in
theorem lay_any (B x bw br N : Nat) (v : Value) (m : Ir.Mk) (o : Ir.Op) (l0 : List Ir.Op) (w : World) (M : MakerAt w B x bw br N v m) (I : Ir.Inv m l0) (hl0 : l0.length < 200) (ho : OpOk o) (hB : B ≤ w.heap.size) (hN : N < 900000) :
    Calls Tryz.prog 46 #[.pointer (some ⟨x, 0, none⟩), .agg (opC o)] w fun e w' => e = .returned (.tuple #[]) ∧ (∃ v', MakerAt w' B x bw br (N + 4) v' (Ir.lay m o)) ∧ Keeps (fun b => B ≤ b) w w' := by
  have hm := I.ok (by omega)
  have HM := Lib.hid M
  have HMO := Lib.hid hm
  obtain ⟨a1, a2, a3, a4⟩ := Ir.layAt_all I o
  have HA3 := Lib.hid a3
  have HA4 := Lib.hid a4
  have hlen := hm.len
  have HFR := Lib.hid (fun w' (q : Keeps (fun _ => False) w w') => from_any B x bw br N v m o w' (M.quiet q) hm ho)
  have HFI := Lib.hid (fun k w' (hk : k ≤ 1000) (q : Keeps (fun _ => False) w w') => fits_any B x bw br N v m k o w' (M.quiet q) hm hk)
  have HOO := Lib.hid ho
  have HLAY : Hid (Ir.lay m o = { rows := Ir.layRows m.rows (Ir.layAt m o) o, write := if Ir.writes o = 0 then m.write else fun n => if n = Ir.writes o then some (Ir.layAt m o) else m.write n, read := Ir.rdUp m (Ir.layAt m o) (Ir.reads o), st := if Ir.kn o.k = 6 then Ir.layAt m o + 1 else m.st, ld := if Ir.kn o.k = 5 then max m.ld (Ir.layAt m o + 1) else m.ld, leave := max m.leave (Ir.layAt m o), first := if Ir.leaves (Ir.kn o.k) = true then Ir.layAt m o + 1 else m.first }) := Lib.hid rfl
  obtain ⟨fk, hfk⟩ : ∃ f, Ir.fromK m o = f := ⟨_, rfl⟩
  obtain ⟨k, hk⟩ : ∃ k, Ir.layAt m o = k := ⟨_, rfl⟩
  rw [hfk] at HFR HA3 a1
  rw [hk] at HA3 HA4 HLAY a1 a2
  have HKA := Lib.hid hk
  clear hfk hk a3 a4 M hm ho
  obtain ⟨L, hL⟩ : ∃ L, m.rows.length = L := ⟨_, rfl⟩
  rw [hL] at a2 hlen
  have HLL := Lib.hid hL
  clear hL
  obtain ⟨y, hy⟩ : ∃ y, w.heap.size = y := ⟨_, rfl⟩
  have hwy : w.heap.size = y := hy
  have HY := Lib.hid hwy
  have hBy : B ≤ y := by rw [← hy]; exact hB
  clear hwy
  obtain ⟨ok, od, oa, ob, oim, oat⟩ := o
  have HN := Lib.hid (op_box w ok od oa ob oim oat)
  rw [hy] at HN
  clear hB
  unfold opC at HFR HFI ⊢
  go_enter Tryz.func46, Tryz.ntmps46
  go_upto_region 1 with fail
  clear hy
  obtain ⟨hV, hK⟩ := HN.out
  have HK1 := Lib.hid hK
  have HV1 := Lib.hid hV
  generalize w.alloc _ = w1 at *
  obtain ⟨v0, v1, v2, v3, v4, v5⟩ := hV.at_
  simp only at v0 v1 v2 v3 v4 v5
  clear hK HN
  go_wp2_with fail
  refine (HFR.out _ HK1.out).mono ?_
  rintro e w2 ⟨rfl, hk2⟩
  have HK2 := Lib.hid (HK1.out.trans hk2 (fun _ _ h => h))
  have HV2 := Lib.hid (HV1.out.keep hk2 (fun h => h))
  clear v0 v1 v2 v3 v4 v5 hk2
  go_wp2_with fail
  go_loopw [4] (fun s4 wr => ∃ j : Nat, fk ≤ j ∧ j ≤ k ∧ s4 = .int .i64 j ∧ Keeps (fun _ => False) w2 wr) (fun s4 _ => k - (intOf s4).toNat)
  case atStart => exact ⟨fk, Nat.le_refl _, a1, rfl, Keeps.refl _ _⟩
  case round =>
    obtain ⟨j, hj1, hj2, rfl, hKi⟩ := hrel
    have HKI := Lib.hid hKi
    have HKT := Lib.hid (HK2.out.trans hKi (fun _ _ h => h))
    clear hKi
    obtain ⟨v0, v1, v2, v3, v4, v5⟩ := (HV2.out.keep HKI.out (fun h => h)).at_
    simp only at v0 v1 v2 v3 v4 v5
    have hj1000 : j ≤ 1000 := by omega
    by_cases hjk : j < k
    · have HFF := Lib.hid (fun w q => HFI.out j w hj1000 q)
      rw [HA3.out j hj1 hjk] at HFF
      have hj63 : (j : Int) + 1 ≤ 1000 := by omega
      go_wp2_with fail
      refine (HFF.out _ HKT.out).mono ?_
      rintro e w3 ⟨rfl, hk3⟩
      have HK3 := Lib.hid (HKI.out.trans hk3 (fun _ _ h => h))
      clear hk3
      go_wp2_with fail
      go_roundw
      case rel => exact ⟨j + 1, by omega, by omega, by go_num, HK3.out⟩
      case measure => simp [intOf]; omega
    · obtain rfl : j = k := by omega
      have HFF := Lib.hid (fun w q => HFI.out j w hj1000 q)
      rw [HA4.out] at HFF
      generalize wr = w3 at *
      generalize j = k at *
      go_upto_if 15 with (go_at_call 84; refine (HFF.out _ HKT.out).mono ?_; rintro e w4 ⟨rfl, hk4⟩; have HK4 := Lib.hid (HKT.out.trans hk4 (fun _ _ h => h)); have HV4 := Lib.hid ((HV2.out.keep HKI.out (fun h => h)).keep hk4 (fun h => h)); clear hk4)
      clear v0 v1 v2 v3 v4 v5 HFF
      go_upto_block 2 with (fail)
      obtain ⟨pre, hpre⟩ : ∃ p, p = if k < L then m.rows else m.rows ++ [[]] := ⟨_, rfl⟩
      have HPRE := Lib.hid hpre
      clear hpre
      obtain ⟨oo, hoo⟩ : ∃ p : Ir.Op, p = ⟨ok, od, oa, ob, oim, oat⟩ := ⟨_, rfl⟩
      have HPO := Lib.hid hoo
      rw [← hoo] at HV4
      clear hoo
      generalize w4 = w5 at *
      go_cut [18] from 18 to 33 (fun s18 wx => LayP0 w B x bw br N y m oo pre wx)
      case first =>
        have hc0 := (HM.out.quiet HK4.out).cells.1
        obtain ⟨A, cap, hv⟩ : ∃ A cap, v = .slice A L cap := by
          obtain ⟨A, cap, hv, _⟩ := HM.out.rows.own.rows
          rw [HLL.out] at hv
          exact ⟨A, cap, hv⟩
        obtain ⟨vs, hvs0⟩ := HM.out.rows.vs
        have HLT := Lib.hid hvs0.lt
        have HVS := Lib.hid (hvs0.quiet HK4.out)
        clear hvs0
        by_cases hkl : k < L
        · have HPE := Lib.hid (show pre = m.rows by rw [HPRE.out, if_pos hkl])
          have HP0 := Lib.hid (show LayP0 w B x bw br N y m oo pre w5 by
            rw [HPE.out]
            exact ⟨v, vs, HM.out.quiet HK4.out, HVS.out, fun j b hb => by have := HLT.out j b hb; rw [← HY.out]; exact this, HV4.out, keeps_all HK4.out⟩)
          have t1 : decide (L ≤ k) = false := decide_eq_false (by omega)
          subst hv
          go_wp2_with fail
          refine wp_loop_rounds 1 ?_
          rw [rounds_succ]
          go_wp2_with fail
          go_meet
          exact HP0.out
        · have HPE := Lib.hid (show pre = m.rows ++ [[]] by rw [HPRE.out, if_neg hkl])
          have hkL : k = L := by omega
          have t1 : decide (L ≤ k) = true := decide_eq_true (by omega)
          obtain ⟨i0, hinf, hz0, hz1, hz2⟩ := info_parts Tryz.info_rowO
          have HM5 := Lib.hid (HM.out.quiet HK4.out)
          have hown := HVS.out.own
          rw [HLL.out] at hown
          have hfz := HM5.out.frozen 0
          subst hv
          have HCN := Lib.hid (fun j u hj => cells_new w5 [.slice none 0 0] 23 j u hj)
          have HONE : Hid (∀ u ∈ [Value.slice none 0 0], u.oneCell' = true) := Lib.hid (by
            intro u hu
            simp only [List.mem_cons, List.not_mem_nil, or_false] at hu
            rw [hu]
            rfl)
          have HQ := Lib.hid (show (w5.alloc (.cells #[.slice none 0 0] 23)).ownsRow B 23 1 (.slice A L cap) L vs from hown.alloc _)
          have HBS := Lib.hid (show B ≤ (w5.alloc (.cells #[.slice none 0 0] 23)).heap.size by
            rw [nblk_alloc]
            have := HK4.out.size
            have := HY.out
            omega)
          have hmx : L + 1 ≤ maxLen := by unfold maxLen; omega
          have HKL := Lib.hid hkL
          clear hown hkL
          go_wp2_with fail
          refine wp_loop_rounds 2 ?_
          rw [rounds_succ]
          go_wp2_with (at_builtin; go_loud (refine wpList_append_mine rfl _ _ 33 rfl B 23 i0 _ 1 24 Tryz.underlying33 hinf hz0 hz1 hz2 rfl (by decide) (.slice A L cap) L vs rfl HQ.out ⟨w5.heap.size, 0, none⟩ 1 1 [.slice none 0 0] rfl rfl HCN.out HONE.out hmx (by omega) HBS.out ?c0))
          case c0 =>
            intro v' w6 hown6 hgrow6 hmv6
            have hk56 : Keeps (fun b => (Value.slice A L cap).ownBlock = some b) (w5.alloc (.cells #[.slice none 0 0] 23)) w6 := (Keeps.refl _ _).grown hgrow6 (fun g hg _ => hg)
            have hk5 : Keeps (fun b => (Value.slice A L cap).ownBlock = some b) w5 w6 := ((Keeps.refl _ w5).alloc _).trans hk56 (fun _ _ h => h)
            have HR6 := Lib.hid (HVS.out.snoc hk5 (by rw [HLL.out]; exact hown6))
            obtain ⟨A', cap', rfl⟩ := owns_slice hown6
            obtain ⟨hm6, hf6, hc6, hr6⟩ := HM5.out.setRows hk5 HR6.out
            have HM6 := Lib.hid hm6
            have HR7 := Lib.hid hr6
            have HK6 := Lib.hid (show Keeps (fun b => B ≤ b) w (w6.setCell ⟨x, 0, none⟩ (.slice A' (L + 1) cap')) from
              ((keeps_all HK4.out).trans hk5 (fun b _ h => (HVS.out.own.lt b h).1)).setCell (a := ⟨x, 0, none⟩) (fun _ => HM5.out.low.1) _)
            have HV6 := Lib.hid (HV4.out.keep hk5 (fun e => by
              have h1 := (HVS.out.own.lt y e).2
              have h2 := HLT.out
              have h3 := (HM.out.rows.vs)
              obtain ⟨_, h3⟩ := h3
              have := (h3.own.lt y e).2
              have := HY.out
              omega))
            have HP0 := Lib.hid (show LayP0 w B x bw br N y m oo pre (w6.setCell ⟨x, 0, none⟩ (.slice A' (L + 1) cap')) by
              rw [HPE.out]
              refine ⟨_, _, HM6.out, HR7.out, fun j b hb => ?_, HV6.out.keep (Keeps.one _ _ _ _) (fun e => ?_), HK6.out⟩
              · by_cases hj : j < vs.length
                · rw [getD_snoc_lt _ _ _ _ hj] at hb
                  have := HLT.out j b hb
                  rw [← HY.out]
                  exact this
                · have e : (vs ++ [Value.slice none 0 0]).getD j (.slice none 0 0) = .slice none 0 0 := by
                    rw [List.getD_eq_getElem?_getD]
                    by_cases hj2 : j = vs.length
                    · subst hj2; simp
                    · rw [List.getElem?_eq_none (by simp; omega)]; rfl
                  rw [e] at hb
                  cases hb
              · have := HM.out.blk
                have := (Array.getElem?_eq_some_iff.1 this).1
                have := HY.out
                omega)
            have hc7 := HM6.out.cells.1
            clear hm6 hr6 hown6 hgrow6 hmv6 hk56 hk5 hc0 HQ HCN HBS
            go_wp2_with fail
            generalize w6.setCell _ _ = w7 at *
            have t2 : decide (L + 1 ≤ k) = false := decide_eq_false (by have := HKL.out; omega)
            rw [rounds_succ]
            go_wp2_with fail
            go_meet
            exact HP0.out
      case rest =>
        obtain ⟨v2, vs, hM, hVS, hlt, hO, hK⟩ := hcut
        have HPL := Lib.hid (show k < pre.length ∧ pre.length ≤ 201 by
          rw [HPRE.out]
          by_cases e : k < L
          · rw [if_pos e, HLL.out]; omega
          · rw [if_neg e, List.length_append, HLL.out, List.length_singleton]; omega)
        have HPR := Lib.hid (show pre.set k (pre.getD k [] ++ [oo]) = Ir.layRows m.rows k oo by
          rw [HPRE.out]
          by_cases e : k < L
          · rw [if_pos e, Ir.layRows_set (by rw [HLL.out]; exact e)]
          · rw [if_neg e, Ir.layRows_snoc (by rw [HLL.out]; omega)])
        have HR4 := Lib.hid (show (pre.getD k []).length ≤ 4 by
          rw [HPRE.out]
          by_cases e : k < L
          · rw [if_pos e]; exact HMO.out.four k
          · rw [if_neg e]
            have e2 : k = m.rows.length := by rw [HLL.out]; omega
            rw [e2, getD_snoc_eq]
            exact Nat.zero_le _)
        have hgk0 := hVS.each k HPL.out.1
        have HGB := Lib.hid hVS
        obtain ⟨A2, cap2, hv2, _⟩ := hM.rows.own.rows
        obtain ⟨pl, hpl⟩ : ∃ n, pre.length = n := ⟨_, rfl⟩
        have hv2 : v2 = .slice A2 pl cap2 := by rw [hv2, ← hpl]
        have HPN := Lib.hid hpl
        have hkpl : k < pl := by have := HPL.out.1; omega
        obtain ⟨g, rfl⟩ : ∃ g, A2 = some ⟨g, 0, none⟩ := by
          obtain ⟨_, ⟨h4, h5⟩ | ⟨g, cp, cur, h4, _⟩⟩ := hVS.own
          · omega
          · rw [hv2] at h4
            injection h4 with h4
            exact ⟨g, h4⟩
        subst hv2
        obtain ⟨cur, hcur⟩ := owns_typed hVS.own (g := g) rfl
        obtain ⟨Ak, ck, hvk, hok⟩ := hgk0
        obtain ⟨rl, hrl⟩ : ∃ n, (pre.getD k []).length = n := ⟨_, rfl⟩
        rw [hrl] at hvk
        have HRL := Lib.hid hrl
        have hgk : wc.cell? ⟨g, k, none⟩ = some (.slice Ak rl ck) := by
          have := owns_cell hVS.own (g := g) rfl HPL.out.1 (.slice none 0 0)
          rw [hvk] at this
          exact this
        have HVK := Lib.hid hvk
        have HOK := Lib.hid (show OpsOwn wc B (pre.getD k []) (.slice Ak rl ck) by rw [← hvk]; exact hVS.each k HPL.out.1)
        have hXS : ¬ ((Value.slice Ak rl ck).ownBlock = some x ∨ x = g) := fun e => by
          have hb := hM.blk
          rcases e with e | e
          · obtain ⟨c3, h3⟩ := owns_typed hok (g := x) (by rw [hvk]; exact e)
            rw [hb] at h3
            injection h3 with h3
            injection h3 with _ h3
            exact maker_ne.2 h3
          · subst e
            rw [hb] at hcur
            injection hcur with h3
            injection h3 with _ h3
            exact maker_ne.1 h3
        have hYS : ¬ ((Value.slice Ak rl ck).ownBlock = some y ∨ y = g) := fun e => by
          rcases e with e | e
          · have := hlt k y (by rw [hvk]; exact e)
            omega
          · subst e
            have hb : wc.heap[y]? = _ := hO
            rw [hb] at hcur
            injection hcur with h3
            injection h3 with _ h3
            exact op_ne_row h3
        have HXS := Lib.hid hXS
        have HYS := Lib.hid hYS
        have HM7 := Lib.hid hM
        have HO7 := Lib.hid hO
        have HK7 := Lib.hid hK
        have HLT7 := Lib.hid hlt
        have HDR := Lib.hid (show ∀ u w1 w2, Keeps (fun _ => False) wc w1 → Keeps (fun b => (Value.slice Ak rl ck).ownBlock = some b) w1 w2 → OpsOwn w2 B (pre.getD k [] ++ [oo]) u → Moved w1 (Value.slice Ak rl ck) u → MakerAt (w2.setCell ⟨g, k, none⟩ u) B x bw br N (.slice (some ⟨g, 0, none⟩) pl cap2) { m with rows := Ir.layRows m.rows k oo } ∧ w2.frozen? ⟨g, k, none⟩ = false ∧ w2.cell? ⟨g, k, none⟩ = some (Value.slice Ak rl ck) ∧
            Keeps (fun b => (Value.slice Ak rl ck).ownBlock = some b ∨ b = g) wc (w2.setCell ⟨g, k, none⟩ u) from fun u w1 w2 k1 k2 hu hmv => by
          rw [← hvk] at k2 hmv ⊢
          have := hM.putRow (m := { m with rows := pre }) hpl hVS HPL.out.1 k1 k2 hu hmv
          rw [show ({ m with rows := pre } : Ir.Mk).rows = pre from rfl, HPR.out] at this
          exact this)
        have hc0 := hM.cells.1
        have hof := hO.at_
        have HPO2 := HPO.out
        subst HPO2
        obtain ⟨v0, v1, v2, v3, v4, v5⟩ := hof
        simp only at v0 v1 v2 v3 v4 v5
        have hkp63 : (k : Int) < (pl : Int) := by omega
        have hkp0 : (0 : Int) ≤ (k : Int) := by omega
        have hplc : pl ≤ cap2 := by
          obtain ⟨_, ⟨h4, h5⟩ | ⟨g', cp, cur', h4, _, _, h7, _⟩⟩ := hVS.own
          · cases h4
          · injection h4 with _ _ h6
            rw [h6, ← hpl]
            exact h7
        clear hM hVS hlt hO hK hcur hok hvk hrl hpl hXS hYS
        go_upto_region 6 with fail
        have HOB := Lib.hid (show ∀ b, ((Value.slice Ak rl ck).ownBlock = some b ∨ b = g) → B ≤ b from fun b h => by
          rcases h with h | h
          · obtain ⟨A9, c9, e9, o9⟩ := HOK.out
            exact (o9.lt b h).1
          · rw [h]
            exact (HGB.out.own.lt g rfl).1)
        go_cut [48] from 34 to 49 (fun s48 wx => LayP1 w B x bw br N y { m with rows := Ir.layRows m.rows k ⟨ok, od, oa, ob, oim, oat⟩ } ⟨ok, od, oa, ob, oim, oat⟩ wx)
        case first =>
          refine wp_region_held_drew (S := fun w' => Keeps (fun b => (Value.slice Ak rl ck).ownBlock = some b ∨ b = g) wc w') (by kernel_rfl) (Keeps.refl _ wc).drew (fun hH0 => ?_)
          refine wpAnyH_take (i := 0) (v := ?_) rfl (by kernel_rfl) (by kernel_rfl) (by kernel_rfl) (fun _ _ _ h => h) (Or.inl ⟨by go_simp, ?_⟩) hH0 ?_
          rotate_left
          · intro w' hSw
            go_simp
            try with_reducible rfl
          simp only [Act.put, List.setIfInBounds_toArray, List.set_cons_zero, List.set_cons_succ]
          refine wpAnyH_take (i := 1) (v := ?_) rfl (by kernel_rfl) (by kernel_rfl) (by kernel_rfl) (fun _ _ _ h => h) (Or.inl ⟨by go_simp, ?_⟩) hH0 ?_
          rotate_left
          · intro w' hSw
            go_simp
            try with_reducible rfl
          simp only [Act.put, List.setIfInBounds_toArray, List.set_cons_zero, List.set_cons_succ]
          refine wpAnyH_take (i := 2) (v := ?_) rfl (by kernel_rfl) (by kernel_rfl) (by kernel_rfl) (fun _ _ _ h => h) (Or.inl ⟨by go_simp, ?_⟩) hH0 ?_
          rotate_left
          · intro w' hSw
            go_simp
            try with_reducible rfl
          simp only [Act.put, List.setIfInBounds_toArray, List.set_cons_zero, List.set_cons_succ]
          refine wpAnyH_take (i := 3) (v := ?_) rfl (by kernel_rfl) (by kernel_rfl) (by kernel_rfl) (fun _ _ _ h => h) (Or.inl ⟨by go_simp, ?_⟩) hH0 ?_
          rotate_left
          · intro w' hSw
            have g0 := Keeps.cell' hSw hc0 HXS.out
            go_simp
            try with_reducible rfl
          simp only [Act.put, List.setIfInBounds_toArray, List.set_cons_zero, List.set_cons_succ]
          refine wpAnyH_take (i := 4) (v := ?_) rfl (by kernel_rfl) (by kernel_rfl) (by kernel_rfl) (fun _ _ _ h => h) (Or.inl ⟨by go_simp, ?_⟩) hH0 ?_
          rotate_left
          · intro w' hSw
            go_simp
            try with_reducible rfl
          simp only [Act.put, List.setIfInBounds_toArray, List.set_cons_zero, List.set_cons_succ]
          refine wpAnyH_take (i := 5) (v := ?_) rfl (by kernel_rfl) (by kernel_rfl) (by kernel_rfl) (fun _ _ _ h => h) (Or.inl ⟨by go_simp, ?_⟩) hH0 ?_
          rotate_left
          · intro w' hSw
            go_simp
            try with_reducible rfl
          simp only [Act.put, List.setIfInBounds_toArray, List.set_cons_zero, List.set_cons_succ]
          refine wpAnyH_take (i := 6) (v := ?_) rfl (by kernel_rfl) (by kernel_rfl) (by kernel_rfl) (fun _ _ _ h => h) (Or.inl ⟨by go_simp, ?_⟩) hH0 ?_
          rotate_left
          · intro w' hSw
            go_simp
            try with_reducible rfl
          simp only [Act.put, List.setIfInBounds_toArray, List.set_cons_zero, List.set_cons_succ]
          refine wpAnyH_take (i := 7) (v := ?_) rfl (by kernel_rfl) (by kernel_rfl) (by kernel_rfl) (fun _ _ _ h => h) (Or.inl ⟨by go_simp, ?_⟩) hH0 ?_
          rotate_left
          · intro w' hSw
            go_simp
            try with_reducible rfl
          simp only [Act.put, List.setIfInBounds_toArray, List.set_cons_zero, List.set_cons_succ]
          refine wpAnyH_take (i := 8) (v := ?_) rfl (by kernel_rfl) (by kernel_rfl) (by kernel_rfl) (fun _ _ _ h => h) (Or.inl ⟨by go_simp, ?_⟩) hH0 ?_
          rotate_left
          · intro w' hSw
            have g0 := Keeps.cell' hSw hc0 HXS.out
            go_simp
            try with_reducible rfl
          simp only [Act.put, List.setIfInBounds_toArray, List.set_cons_zero, List.set_cons_succ]
          refine wpAnyH_take (i := 9) (v := ?_) rfl (by kernel_rfl) (by kernel_rfl) (by kernel_rfl) (fun _ _ _ h => h) (Or.inl ⟨by go_simp, ?_⟩) hH0 ?_
          rotate_left
          · intro w' hSw
            go_simp
            try with_reducible rfl
          simp only [Act.put, List.setIfInBounds_toArray, List.set_cons_zero, List.set_cons_succ]
          refine wpAnyH_take (i := 10) (v := ?_) rfl (by kernel_rfl) (by kernel_rfl) (by kernel_rfl) (fun _ _ _ h => h) (Or.inl ⟨by go_simp, ?_⟩) hH0 ?_
          rotate_left
          · intro w' hSw
            go_simp
            try with_reducible rfl
          simp only [Act.put, List.setIfInBounds_toArray, List.set_cons_zero, List.set_cons_succ]
          refine wpAnyH_take (i := 12) (v := ?_) rfl (by kernel_rfl) (by kernel_rfl) (by kernel_rfl) (fun _ _ _ h => h) (Or.inl ⟨by go_simp, ?_⟩) hH0 ?_
          rotate_left
          · intro w' hSw
            have g0 := Keeps.cell' hSw v0 HYS.out
            have g1 := Keeps.cell' hSw v1 HYS.out
            have g2 := Keeps.cell' hSw v2 HYS.out
            have g3 := Keeps.cell' hSw v3 HYS.out
            have g4 := Keeps.cell' hSw v4 HYS.out
            have g5 := Keeps.cell' hSw v5 HYS.out
            go_simp
            try with_reducible rfl
          simp only [Act.put, List.setIfInBounds_toArray, List.set_cons_zero, List.set_cons_succ]
          have hcd : wc.drew.cell? ⟨g, k, none⟩ = some (.slice Ak rl ck) := ((Keeps.refl (fun _ => False) wc).drew).cell' hgk (fun h => h)
          refine wpAnyH_ready (rs := [11, 13]) (by kernel_rfl) (by simp) ?_
          refine AllReadyH.cons rfl (fun K hK => ?_) (AllReadyH.cons rfl (fun K hK => ?_) AllReadyH.nil)
          · go_simp
            refine hK.out _ _ hH0 (fun _ => ?_)
            clear hK K
            try simp only [Act.put, List.setIfInBounds_toArray, List.set_cons_zero, List.set_cons_succ]
            refine wpAnyH_ready (rs := [13]) (by kernel_rfl) (by simp) ?_
            refine AllReadyH.cons rfl (fun K hK => ?_) AllReadyH.nil
            go_simp
            have hH1 := hH0.alloc (.cells #[.string ok, .int .i64 od, .int .i64 oa, .int .i64 ob, .int .u32 oim, .int .i64 oat] 100)
            refine hK.out _ _ hH1 (fun _ => ?_)
            clear hK K
            try simp only [Act.put, List.setIfInBounds_toArray, List.set_cons_zero, List.set_cons_succ]
            have HWA : Hid (Keeps (fun _ => False) wc (wc.drew.alloc (.cells #[.string ok, .int .i64 od, .int .i64 oa, .int .i64 ob, .int .u32 oim, .int .i64 oat] 100))) := Lib.hid (((Keeps.refl (fun _ => False) wc).drew).alloc _)
            have HCN := Lib.hid (fun j u hj => cells_new wc.drew (opL1 ⟨ok, od, oa, ob, oim, oat⟩) 100 j u hj)
            refine wpAnyH_ready (rs := [14]) (by kernel_rfl) (by simp) ?_
            refine AllReadyH.cons rfl (fun K hK => ?_) AllReadyH.nil
            refine step_append_ops rfl _ _ rfl B (pre.getD k []) (.slice Ak rl ck) (by rfl) (HOK.out.keepS HWA.out (fun _ _ h => h)) ⟨wc.heap.size, 0, none⟩ 1 1 [(⟨ok, od, oa, ob, oim, oat⟩ : Ir.Op)] (by rfl) rfl HCN.out (by have := HR4.out; omega) (by have h1 := HK7.out.size; have h2 := HY.out; show B ≤ (World.alloc wc _).heap.size; rw [nblk_alloc]; omega) ?_
            intro u w2 hu2 hk2 hmv2
            obtain ⟨q1, q2, q3, q4⟩ := HDR.out u _ w2 HWA.out hk2 hu2 hmv2
            obtain ⟨Au, cu, hue, _⟩ := id hu2
            obtain ⟨ul, hul⟩ : ∃ n, (pre.getD k [] ++ [(⟨ok, od, oa, ob, oim, oat⟩ : Ir.Op)]).length = n := ⟨_, rfl⟩
            rw [hul] at hue
            subst hue
            clear hul
            have hH2 := hH1.trans hk2 (fun b _ h => .inl h)
            refine hK.out _ _ hH2 (fun _ => ?_)
            clear hK K
            try simp only [Act.put, List.setIfInBounds_toArray, List.set_cons_zero, List.set_cons_succ]
            refine wpAnyH_take (i := 15) (v := ?_) rfl (by kernel_rfl) (by kernel_rfl) (by kernel_rfl) (fun _ _ _ h => h) (Or.inl ⟨by go_simp, ?_⟩) hH2 ?_
            rotate_left
            · intro w' hSw
              go_simp
              try with_reducible rfl
            simp only [Act.put, List.setIfInBounds_toArray, List.set_cons_zero, List.set_cons_succ]
            refine wpAnyH_ready (rs := [16]) (by kernel_rfl) (by simp) ?_
            refine AllReadyH.cons rfl (fun K hK => ?_) AllReadyH.nil
            go_simp
            refine hK.out _ _ q4 (fun _ => ?_)
            clear hK K
            try simp only [Act.put, List.setIfInBounds_toArray, List.set_cons_zero, List.set_cons_succ]
            refine wpAnyH_done (by kernel_rfl) ?_ _
            go_wp2_with fail
            go_meet
            exact ⟨_, q1, HO7.out.keep q4 HYS.out, HK7.out.trans q4 (fun b _ h => HOB.out b h)⟩
          · go_simp
            have hH1 := hH0.alloc (.cells #[.string ok, .int .i64 od, .int .i64 oa, .int .i64 ob, .int .u32 oim, .int .i64 oat] 100)
            refine hK.out _ _ hH1 (fun _ => ?_)
            clear hK K
            try simp only [Act.put, List.setIfInBounds_toArray, List.set_cons_zero, List.set_cons_succ]
            have hcd2 := cell_alloc hgk (.cells #[.string ok, .int .i64 od, .int .i64 oa, .int .i64 ob, .int .u32 oim, .int .i64 oat] 100)
            refine wpAnyH_ready (rs := [11]) (by kernel_rfl) (by simp) ?_
            refine AllReadyH.cons rfl (fun K hK => ?_) AllReadyH.nil
            go_simp
            refine hK.out _ _ hH1 (fun _ => ?_)
            clear hK K
            try simp only [Act.put, List.setIfInBounds_toArray, List.set_cons_zero, List.set_cons_succ]
            have HWA : Hid (Keeps (fun _ => False) wc (wc.drew.alloc (.cells #[.string ok, .int .i64 od, .int .i64 oa, .int .i64 ob, .int .u32 oim, .int .i64 oat] 100))) := Lib.hid (((Keeps.refl (fun _ => False) wc).drew).alloc _)
            have HCN := Lib.hid (fun j u hj => cells_new wc.drew (opL1 ⟨ok, od, oa, ob, oim, oat⟩) 100 j u hj)
            refine wpAnyH_ready (rs := [14]) (by kernel_rfl) (by simp) ?_
            refine AllReadyH.cons rfl (fun K hK => ?_) AllReadyH.nil
            refine step_append_ops rfl _ _ rfl B (pre.getD k []) (.slice Ak rl ck) (by rfl) (HOK.out.keepS HWA.out (fun _ _ h => h)) ⟨wc.heap.size, 0, none⟩ 1 1 [(⟨ok, od, oa, ob, oim, oat⟩ : Ir.Op)] (by rfl) rfl HCN.out (by have := HR4.out; omega) (by have h1 := HK7.out.size; have h2 := HY.out; show B ≤ (World.alloc wc _).heap.size; rw [nblk_alloc]; omega) ?_
            intro u w2 hu2 hk2 hmv2
            obtain ⟨q1, q2, q3, q4⟩ := HDR.out u _ w2 HWA.out hk2 hu2 hmv2
            obtain ⟨Au, cu, hue, _⟩ := id hu2
            obtain ⟨ul, hul⟩ : ∃ n, (pre.getD k [] ++ [(⟨ok, od, oa, ob, oim, oat⟩ : Ir.Op)]).length = n := ⟨_, rfl⟩
            rw [hul] at hue
            subst hue
            clear hul
            have hH2 := hH1.trans hk2 (fun b _ h => .inl h)
            refine hK.out _ _ hH2 (fun _ => ?_)
            clear hK K
            try simp only [Act.put, List.setIfInBounds_toArray, List.set_cons_zero, List.set_cons_succ]
            refine wpAnyH_take (i := 15) (v := ?_) rfl (by kernel_rfl) (by kernel_rfl) (by kernel_rfl) (fun _ _ _ h => h) (Or.inl ⟨by go_simp, ?_⟩) hH2 ?_
            rotate_left
            · intro w' hSw
              go_simp
              try with_reducible rfl
            simp only [Act.put, List.setIfInBounds_toArray, List.set_cons_zero, List.set_cons_succ]
            refine wpAnyH_ready (rs := [16]) (by kernel_rfl) (by simp) ?_
            refine AllReadyH.cons rfl (fun K hK => ?_) AllReadyH.nil
            go_simp
            refine hK.out _ _ q4 (fun _ => ?_)
            clear hK K
            try simp only [Act.put, List.setIfInBounds_toArray, List.set_cons_zero, List.set_cons_succ]
            refine wpAnyH_done (by kernel_rfl) ?_ _
            go_wp2_with fail
            go_meet
            exact ⟨_, q1, HO7.out.keep q4 HYS.out, HK7.out.trans q4 (fun b _ h => HOB.out b h)⟩
        case rest =>
          obtain ⟨z3, hM1, hO1, hK1⟩ := hcut
          clear HDR HOB HGB HLT7 HM7 HO7 HK7 HXS HYS HVK HOK HRL hc0 hgk v0 v1 v2 v3 v4 v5 HPR HPL HPN HR4 HPRE HKI HKT HK4 HV4 HV2 HK2 HV1 HK1 HA3 HA4 HFR HFI hkp63 hkp0 hplc hkpl
          obtain ⟨m1, hm1⟩ : ∃ m1 : Ir.Mk, m1 = { m with rows := Ir.layRows m.rows k ⟨ok, od, oa, ob, oim, oat⟩ } := ⟨_, rfl⟩
          rw [← hm1] at hM1
          have HM1 := Lib.hid hM1
          have HO1 := Lib.hid hO1
          have HK1 := Lib.hid hK1
          have hl5 := hM1.cells.2.2.2.2.2.1
          have hf5 := hM1.frozen 5
          have h1lv : m1.leave = m.leave := by rw [hm1]
          rw [h1lv] at hl5
          have hlv := HMO.out.lv
          have HXY := Lib.hid (show x ≠ y from fun e => by
            have hb := hM1.blk
            rw [e] at hb
            have h2 : _ = _ := hO1
            rw [hb] at h2
            injection h2 with h2
            injection h2 with _ h3
            exact maker_ne.2 h3)
          have H1M := Lib.hid hm1
          clear hM1 hO1 hK1 hm1 h1lv
          go_upto_region 7 with fail
          go_cut [56] from 50 to 58 (fun s56 wx => LayP1 w B x bw br N y { m1 with leave := max m.leave k } ⟨ok, od, oa, ob, oim, oat⟩ wx)
          case first =>
            go_wp2_with fail
            all_goals
              go_meet
              exact ⟨_, HM1.out.setLv _ (max m.leave k) (by omega), HO1.out.keep (Keeps.one _ _ _ _) (fun e => HXY.out e.symm), HK1.out.setCell (a := ⟨x, 5, none⟩) (fun _ => HM1.out.low.1) _⟩
          case rest =>
            obtain ⟨z4, hM2, hO2, hK2⟩ := hcut
            clear HM1 HO1 HK1 hl5 hf5
            obtain ⟨m2, hm2⟩ : ∃ m2 : Ir.Mk, m2 = { m1 with leave := max m.leave k } := ⟨_, rfl⟩
            rw [← hm2] at hM2
            have HM2 := Lib.hid hM2
            have HO2 := Lib.hid hO2
            have HK2 := Lib.hid hK2
            have H2M := Lib.hid hm2
            obtain ⟨q0, q1, q2, q3, q4, q5⟩ := hO2.at_
            simp only at q0 q1 q2 q3 q4 q5
            have HRD := Lib.hid (fun w => Reads_any ⟨ok, od, oa, ob, oim, oat⟩ w)
            have HWA := Lib.hid (fun w => writes_any ⟨ok, od, oa, ob, oim, oat⟩ w)
            have HGR := Lib.hid (reads_get HOO.out)
            have HWR := Lib.hid (writes_rngD HOO.out)
            obtain ⟨rs, hrs⟩ : ∃ l, Ir.reads ⟨ok, od, oa, ob, oim, oat⟩ = l := ⟨_, rfl⟩
            obtain ⟨wd, hwd⟩ : ∃ l, Ir.writes ⟨ok, od, oa, ob, oim, oat⟩ = l := ⟨_, rfl⟩
            rw [hrs] at HGR HRD HLAY
            rw [hwd] at HWR HWA HLAY
            unfold opC at HRD HWA
            clear hrs hwd hM2 hO2 hK2 hm2
            go_wp2_with fail
            refine (HRD.out _).mono ?_
            rintro e w3 ⟨vr, rfl, hir, hk3⟩
            obtain ⟨RA, rn, rcap, rfl, hrn, hrc, hRD⟩ := hir
            have HM3 := Lib.hid (HM2.out.quiet hk3)
            have HO3 := Lib.hid (HO2.out.keep hk3 (fun h => h))
            have HK3 := Lib.hid (HK2.out.trans (keeps_all (B := B) hk3) (fun _ _ h => h))
            have HR3 := Lib.hid (show RdAt w3 RA rn rs from by
              obtain ⟨h1, h2 | ⟨b, o, h3, h4, h5⟩⟩ := hRD
              · exact .inl (by omega)
              · exact .inr ⟨b, o, h3, h5⟩)
            have hrl : rn ≤ rcap := hRD.1
            have HRN := Lib.hid hrn
            clear hk3 q0 q1 q2 q3 q4 q5 hRD hrn HM2 HO2 HK2
            go_wp2_with fail
            go_loopw [62] (fun s62 wr => ∃ i : Nat, i ≤ rn ∧ s62 = .int .i64 i ∧ LayP1 w B x bw br (N + i) y { m2 with read := Ir.rdUp m k (rs.take i) } ⟨ok, od, oa, ob, oim, oat⟩ wr ∧ RdAt wr RA rn rs) (fun s62 _ => rn - (intOf s62).toNat)
            case atStart => exact ⟨0, by omega, rfl, ⟨_, (show MakerAt w3 B x bw br N z4 { m2 with read := Ir.rdUp m k (rs.take 0) } from by
              have e : ({ m2 with read := Ir.rdUp m k (rs.take 0) } : Ir.Mk) = m2 := by
                rw [H2M.out, H1M.out]
                rfl
              rw [e]
              exact HM3.out), HO3.out, HK3.out⟩, HR3.out⟩
            case round =>
              obtain ⟨i, hi, rfl, hLP, hRR⟩ := hrel
              have HLP := Lib.hid hLP
              have HRR := Lib.hid hRR
              clear hLP hRR HM3 HO3 HK3 HR3
              by_cases hlt : i < rn
              · have hil : i < rs.length := by rw [← HRN.out]; exact hlt
                have HST := Lib.hid (Ir.rdUp_step m k rs i hil)
                have HRG := Lib.hid (HGR.out i hil)
                obtain ⟨rb, ro, rfl, hrc2⟩ : ∃ b o, RA = some ⟨b, o, none⟩ ∧ wr.cell? ⟨b, o + i, none⟩ = some (.int .i64 (rs.getD i 0)) := by
                  rcases HRR.out with h1 | ⟨b, o, h3, h5⟩
                  · omega
                  · exact ⟨b, o, h3, h5 i hlt⟩
                have hrv := Ir.rdUp_lim (m := m) (k := k) (L := 202) (fun n r h => by have := HMO.out.rd n r h; have := HLL.out; omega) (by omega) (rs.take i) (rs.getD i 0)
                obtain ⟨z5, hM5, hO5, hK5⟩ := HLP.out
                have HM5 := Lib.hid hM5
                have HO5 := Lib.hid hO5
                have HK5 := Lib.hid hK5
                obtain ⟨r, hr⟩ : ∃ r, rs.getD i 0 = r := ⟨_, rfl⟩
                rw [hr] at HST HRG hrc2 hrv
                obtain ⟨rv, hrvv⟩ : ∃ n, (Ir.rdUp m k (rs.take i) r).getD 0 = n := ⟨_, rfl⟩
                rw [hrvv] at HST hrv
                have hc2 := hM5.cells.2.2.1
                have hlk := (hM5.quiet ((Keeps.refl (fun _ => False) wr).drew)).rd.get r HRG.out
                rw [show ({ m2 with read := Ir.rdUp m k (rs.take i) } : Ir.Mk).read = Ir.rdUp m k (rs.take i) from rfl, hrvv] at hlk
                obtain ⟨w9, hmu, hrm, hk9⟩ := (hM5.quiet ((Keeps.refl (fun _ => False) wr).drew)).rd.put r (max rv k) HRG.out (by omega) (by omega)
                have HRM := Lib.hid hrm
                have HK9 := Lib.hid (((Keeps.refl (fun b => b = br) wr).drew).trans hk9 (fun _ _ h => h))
                have HXB := Lib.hid hM5.ne_map.2
                have hi63 : (i : Int) < rn := by omega
                have HMB := Lib.hid hM5.rd.blk
                have HRV := Lib.hid hrvv
                clear hr hil hM5 hO5 hK5 hrm hk9 hrvv
                go_upto_region 11 with fail
                rw [show ((max rv k : Nat) : Int) = max (rv : Int) (k : Int) by omega] at hmu
                refine wp_region_held_drew (S := fun w' => Keeps (fun b => b = br) wr w') (by kernel_rfl) (Keeps.refl _ wr).drew (fun hH0 => ?_)
                refine wpAnyH_take (i := 0) (v := ?_) rfl (by kernel_rfl) (by kernel_rfl) (by kernel_rfl) (fun _ _ _ h => h) (Or.inl ⟨by go_simp, ?_⟩) hH0 ?_
                rotate_left
                · intro w' hSw
                  go_simp
                  try with_reducible rfl
                simp only [Act.put, List.setIfInBounds_toArray, List.set_cons_zero, List.set_cons_succ]
                refine wpAnyH_take (i := 1) (v := ?_) rfl (by kernel_rfl) (by kernel_rfl) (by kernel_rfl) (fun _ _ _ h => h) (Or.inl ⟨by go_simp, ?_⟩) hH0 ?_
                rotate_left
                · intro w' hSw
                  go_simp
                  try with_reducible rfl
                simp only [Act.put, List.setIfInBounds_toArray, List.set_cons_zero, List.set_cons_succ]
                refine wpAnyH_take (i := 2) (v := ?_) rfl (by kernel_rfl) (by kernel_rfl) (by kernel_rfl) (fun _ _ _ h => h) (Or.inl ⟨by go_simp, ?_⟩) hH0 ?_
                rotate_left
                · intro w' hSw
                  go_simp
                  try with_reducible rfl
                simp only [Act.put, List.setIfInBounds_toArray, List.set_cons_zero, List.set_cons_succ]
                refine wpAnyH_take (i := 3) (v := ?_) rfl (by kernel_rfl) (by kernel_rfl) (by kernel_rfl) (fun _ _ _ h => h) (Or.inl ⟨by go_simp, ?_⟩) hH0 ?_
                rotate_left
                · intro w' hSw
                  have g0 := Keeps.cell' hSw hc2 HXB.out
                  go_simp
                  try with_reducible rfl
                simp only [Act.put, List.setIfInBounds_toArray, List.set_cons_zero, List.set_cons_succ]
                refine wpAnyH_take (i := 4) (v := ?_) rfl (by kernel_rfl) (by kernel_rfl) (by kernel_rfl) (fun _ _ _ h => h) (Or.inl ⟨by go_simp, ?_⟩) hH0 ?_
                rotate_left
                · intro w' hSw
                  go_simp
                  try with_reducible rfl
                simp only [Act.put, List.setIfInBounds_toArray, List.set_cons_zero, List.set_cons_succ]
                refine wpAnyH_take (i := 5) (v := ?_) rfl (by kernel_rfl) (by kernel_rfl) (by kernel_rfl) (fun _ _ _ h => h) (Or.inl ⟨by go_simp, ?_⟩) hH0 ?_
                rotate_left
                · intro w' hSw
                  go_simp
                  try with_reducible rfl
                simp only [Act.put, List.setIfInBounds_toArray, List.set_cons_zero, List.set_cons_succ]
                refine wpAnyH_take (i := 6) (v := ?_) rfl (by kernel_rfl) (by kernel_rfl) (by kernel_rfl) (fun _ _ _ h => h) (Or.inl ⟨by go_simp, ?_⟩) hH0 ?_
                rotate_left
                · intro w' hSw
                  go_simp
                  try with_reducible rfl
                simp only [Act.put, List.setIfInBounds_toArray, List.set_cons_zero, List.set_cons_succ]
                refine wpAnyH_take (i := 7) (v := ?_) rfl (by kernel_rfl) (by kernel_rfl) (by kernel_rfl) (fun _ _ _ h => h) (Or.inl ⟨by go_simp, ?_⟩) hH0 ?_
                rotate_left
                · intro w' hSw
                  go_simp
                  try with_reducible rfl
                simp only [Act.put, List.setIfInBounds_toArray, List.set_cons_zero, List.set_cons_succ]
                refine wpAnyH_take (i := 8) (v := ?_) rfl (by kernel_rfl) (by kernel_rfl) (by kernel_rfl) (fun _ _ _ h => h) (Or.inl ⟨by go_simp, ?_⟩) hH0 ?_
                rotate_left
                · intro w' hSw
                  have g0 := Keeps.cell' hSw hc2 HXB.out
                  go_simp
                  try with_reducible rfl
                simp only [Act.put, List.setIfInBounds_toArray, List.set_cons_zero, List.set_cons_succ]
                refine wpAnyH_take (i := 9) (v := ?_) rfl (by kernel_rfl) (by kernel_rfl) (by kernel_rfl) (fun _ _ _ h => h) (Or.inl ⟨by go_simp, ?_⟩) hH0 ?_
                rotate_left
                · intro w' hSw
                  go_simp
                  try with_reducible rfl
                simp only [Act.put, List.setIfInBounds_toArray, List.set_cons_zero, List.set_cons_succ]
                refine wpAnyH_take (i := 11) (v := ?_) rfl (by kernel_rfl) (by kernel_rfl) (by kernel_rfl) (fun _ _ _ h => h) (Or.inl ⟨by go_simp, ?_⟩) hH0 ?_
                rotate_left
                · intro w' hSw
                  go_simp
                  try with_reducible rfl
                simp only [Act.put, List.setIfInBounds_toArray, List.set_cons_zero, List.set_cons_succ]
                refine wpAnyH_ready (rs := [10]) (by kernel_rfl) (by simp) ?_
                refine AllReadyH.cons rfl (fun K hK => ?_) AllReadyH.nil
                go_simp
                refine hK.out _ _ hH0 (fun _ => ?_)
                clear hK K
                try simp only [Act.put, List.setIfInBounds_toArray, List.set_cons_zero, List.set_cons_succ]
                refine wpAnyH_take (i := 12) (v := ?_) rfl (by kernel_rfl) (by kernel_rfl) (by kernel_rfl) (fun _ _ _ h => h) (Or.inl ⟨by go_simp, ?_⟩) hH0 ?_
                rotate_left
                · intro w' hSw
                  go_simp
                  try with_reducible rfl
                simp only [Act.put, List.setIfInBounds_toArray, List.set_cons_zero, List.set_cons_succ]
                refine wpAnyH_ready (rs := [13]) (by kernel_rfl) (by simp) ?_
                refine AllReadyH.cons rfl (fun K hK => ?_) AllReadyH.nil
                go_simp
                refine hK.out _ _ HK9.out (fun _ => ?_)
                clear hK K
                try simp only [Act.put, List.setIfInBounds_toArray, List.set_cons_zero, List.set_cons_succ]
                refine wpAnyH_done (by kernel_rfl) ?_ _
                have HF9 := Lib.hid (show LayP1 w B x bw br (N + (i + 1)) y { m2 with read := Ir.rdUp m k (rs.take (i + 1)) } ⟨ok, od, oa, ob, oim, oat⟩ w9 from ⟨z5, by
                    rw [HST.out]
                    exact (HM5.out.turnR HK9.out HRM.out), HO5.out.keep HK9.out (fun e => by
                      obtain ⟨es, c, hm⟩ := HMB.out
                      have e : y = br := e
                      have h2 : wr.heap[y]? = _ := HO5.out
                      rw [e, hm] at h2
                      cases h2), HK5.out.trans HK9.out (fun b _ e => by
                      have e : b = br := e
                      rw [e]
                      exact HM5.out.low.2.2.1)⟩)
                have HR9 := Lib.hid (HRR.out.keep HK9.out HMB.out)
                clear hmu hlk hc2 hrc2 hH0
                go_wp2_with fail
                go_roundw
                case rel => exact ⟨i + 1, by omega, by go_num, HF9.out, HR9.out⟩
                case measure => simp [intOf]; omega
              · have hin : i = rn := by omega
                obtain ⟨z5, hM5, hO5, hK5⟩ := HLP.out
                have HRA := Lib.hid (show rs.take i = rs from List.take_of_length_le (by rw [← HRN.out]; omega))
                have hirn : i ≤ 3 := by omega
                rw [HRA.out] at hM5
                obtain ⟨m3, hm3⟩ : ∃ m3 : Ir.Mk, m3 = { m2 with read := Ir.rdUp m k rs } := ⟨_, rfl⟩
                rw [← hm3] at hM5
                have HM5 := Lib.hid (hM5.mono (show N + i ≤ N + 3 by omega))
                have HO5 := Lib.hid hO5
                have HK5 := Lib.hid hK5
                have H3M := Lib.hid hm3
                obtain ⟨q0, q1, q2, q3, q4, q5⟩ := hO5.at_
                simp only at q0 q1 q2 q3 q4 q5
                subst hin
                clear hM5 hO5 hK5 hm3 HLP HRR
                generalize wr = w4 at *
                go_wp2_with fail
                refine (HWA.out _).mono ?_
                rintro e w5 ⟨rfl, hk5⟩
                have HM6 := Lib.hid (HM5.out.quiet hk5)
                have HO6 := Lib.hid (HO5.out.keep hk5 (fun h => h))
                have HK6 := Lib.hid (HK5.out.trans (keeps_all (B := B) hk5) (fun _ _ h => h))
                clear hk5 q0 q1 q2 q3 q4 q5 HM5 HO5 HK5
                have hc1 := HM6.out.cells.2.1
                go_upto_if 83 with (fail)
                go_cut [] (fun wx => LayP1 w B x bw br (N + 4) y { m3 with write := if wd = 0 then m.write else fun n => if n = wd then some k else m.write n } ⟨ok, od, oa, ob, oim, oat⟩ wx)
                case first =>
                  by_cases hw0 : wd = 0
                  · have t1 : (wd != 0) = false := by simp [hw0]
                    have HP := Lib.hid (show LayP1 w B x bw br (N + 4) y { m3 with write := if wd = 0 then m.write else fun n => if n = wd then some k else m.write n } ⟨ok, od, oa, ob, oim, oat⟩ w5 from ⟨z5, by
                      rw [if_pos hw0]
                      have e : ({ m3 with write := m.write } : Ir.Mk) = m3 := by rw [H3M.out, H2M.out, H1M.out]
                      rw [e]
                      exact HM6.out.mono (by omega), HO6.out, HK6.out⟩)
                    clear hw0
                    go_wp2_with fail
                    go_meet
                    exact HP.out
                  · have t1 : (wd != 0) = true := by simp [hw0]
                    obtain ⟨w9, hmu, hrm, hk9⟩ := HM6.out.wr.put wd k HWR.out (by omega) (by omega)
                    have HP := Lib.hid (show LayP1 w B x bw br (N + 4) y { m3 with write := if wd = 0 then m.write else fun n => if n = wd then some k else m.write n } ⟨ok, od, oa, ob, oim, oat⟩ w9 from ⟨z5, by
                      rw [if_neg hw0]
                      have e : m3.write = m.write := by rw [H3M.out, H2M.out, H1M.out]
                      rw [e] at hrm
                      exact HM6.out.turnW hk9 hrm, HO6.out.keep hk9 (fun e => by
                        obtain ⟨es, c, hm⟩ := HM6.out.wr.blk
                        have e : y = bw := e
                        have h2 : w5.heap[y]? = _ := HO6.out
                        rw [e, hm] at h2
                        cases h2), HK6.out.trans hk9 (fun b _ e => by
                        have e : b = bw := e
                        rw [e]
                        exact HM6.out.low.2.1)⟩)
                    clear hw0 hrm hk9
                    go_wp2_with fail
                    go_meet
                    exact HP.out
                case rest =>
                  obtain ⟨z7, hM7, hO7, hK7⟩ := hcut
                  obtain ⟨m4, hm4⟩ : ∃ m4 : Ir.Mk, m4 = { m3 with write := if wd = 0 then m.write else fun n => if n = wd then some k else m.write n } := ⟨_, rfl⟩
                  rw [← hm4] at hM7
                  have HM7 := Lib.hid hM7
                  have HO7 := Lib.hid hO7
                  have HK7 := Lib.hid hK7
                  have H4M := Lib.hid hm4
                  obtain ⟨q0, -, -, -, -, -⟩ := hO7.at_
                  simp only at q0
                  have h4st : m4.st = m.st := by rw [hm4, H3M.out, H2M.out, H1M.out]
                  have h4ld : m4.ld = m.ld := by rw [hm4, H3M.out, H2M.out, H1M.out]
                  obtain ⟨-, -, -, hc3, hc4, -, hc6⟩ := hM7.cells
                  have hf3 := hM7.frozen 3
                  have hf4 := hM7.frozen 4
                  have hf6 := hM7.frozen 6
                  rw [h4st] at hc3
                  rw [h4ld] at hc4
                  have hld := HMO.out.ld
                  have hlenL := HLL.out
                  have hk5 := is_load ok
                  have hk6 := is_store ok
                  have HLV := Lib.hid (fun w => leaves_any ok w)
                  try simp only at HLAY
                  clear hM7 hO7 hK7 hm4 h4st h4ld HM6 HO6 HK6 hc1
                  by_cases e5 : Ir.kn ok = 5
                  · have HE := Lib.hid (show Ir.lay m ⟨ok, od, oa, ob, oim, oat⟩ = { m4 with ld := max m.ld (k + 1) } by
                      rw [HLAY.out, H4M.out, H3M.out, H2M.out, H1M.out]
                      simp [e5, Ir.leaves])
                    rw [e5] at hk5 hk6
                    simp only [Nat.reduceBEq] at hk5 hk6
                    have E5 := Lib.hid e5
                    clear e5
                    go_wp2_with fail
                    all_goals
                      refine bodyPost_end (results_none rfl _ _ _) rfl ⟨rfl, ⟨z7, ?_⟩, HK7.out.setCell (a := ⟨x, 4, none⟩) (fun _ => HM7.out.low.1) _⟩
                      rw [HE.out]
                      exact HM7.out.setLd _ (max m.ld (k + 1)) (by omega)
                  · by_cases e6 : Ir.kn ok = 6
                    · have HE := Lib.hid (show Ir.lay m ⟨ok, od, oa, ob, oim, oat⟩ = { m4 with st := k + 1 } by
                        rw [HLAY.out, H4M.out, H3M.out, H2M.out, H1M.out]
                        simp [e6, Ir.leaves])
                      rw [e6] at hk5 hk6
                      simp only [Nat.reduceBEq] at hk5 hk6
                      have E6 := Lib.hid e6
                      clear e6 e5
                      go_wp2_with fail
                      refine bodyPost_end (results_none rfl _ _ _) rfl ⟨rfl, ⟨z7, ?_⟩, HK7.out.setCell (a := ⟨x, 3, none⟩) (fun _ => HM7.out.low.1) _⟩
                      rw [HE.out]
                      exact HM7.out.setSt _ (k + 1) (by omega)
                    · rw [show (Ir.kn ok == 5) = false by simpa using e5] at hk5
                      rw [show (Ir.kn ok == 6) = false by simpa using e6] at hk6
                      obtain ⟨lv, hlv2⟩ : ∃ b, Ir.leaves (Ir.kn ok) = b := ⟨_, rfl⟩
                      rw [hlv2] at HLV
                      cases lv
                      · have HE := Lib.hid (show Ir.lay m ⟨ok, od, oa, ob, oim, oat⟩ = m4 by
                          rw [HLAY.out, H4M.out, H3M.out, H2M.out, H1M.out]
                          simp [e6, e5, hlv2])
                        clear e6 e5 hlv2
                        go_wp2_with (go_at_call 87; refine (HLV.out _).mono ?_; rintro e w' ⟨rfl, rfl⟩)
                        refine bodyPost_end (results_none rfl _ _ _) rfl ⟨rfl, ⟨z7, ?_⟩, HK7.out⟩
                        rw [HE.out]
                        exact HM7.out
                      · have HE := Lib.hid (show Ir.lay m ⟨ok, od, oa, ob, oim, oat⟩ = { m4 with first := k + 1 } by
                          rw [HLAY.out, H4M.out, H3M.out, H2M.out, H1M.out]
                          simp [e6, e5, hlv2])
                        clear e6 e5 hlv2
                        go_wp2_with (go_at_call 87; refine (HLV.out _).mono ?_; rintro e w' ⟨rfl, rfl⟩)
                        refine bodyPost_end (results_none rfl _ _ _) rfl ⟨rfl, ⟨z7, ?_⟩, HK7.out.setCell (a := ⟨x, 6, none⟩) (fun _ => HM7.out.low.1) _⟩
                        rw [HE.out]
                        exact HM7.out.setFs _ (k + 1) (by omega)
end Go.Proofs.YtknhfobcejpmeaaGreatDoor
