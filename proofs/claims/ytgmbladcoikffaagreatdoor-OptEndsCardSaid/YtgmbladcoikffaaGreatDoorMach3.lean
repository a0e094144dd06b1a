
/- The walks of Where, May, Wait. -/
import Derived.Test.YtgmbladcoikffaaGreatDoorMach2
import Derived.Laws.AppendOwn
import Derived.OwnWalk
namespace Go.Proofs.YtgmbladcoikffaaGreatDoor
open Go.RowKit Go.Deep
set_option linter.unusedVariables false
set_option linter.unusedSimpArgs false

/-- what Where answers -/
def Ir.whV (o : Ir.Op) (a : Int) : Int × Bool := if kn o.k = 7 then (o.imm, a != 0) else if kn o.k = 9 then (a, true) else (o.imm, kn o.k == 8)
theorem Ir.goes_wh (o : Ir.Op) (a : Int) (h : Ir.leaves (Ir.kn o.k) = true) : Ir.goesTo o a = if (Ir.whV o a).2 = true then some (Ir.whV o a).1 else none := by
  unfold Ir.leaves at h
  have h := of_decide_eq_true h
  unfold Ir.goesTo Ir.whV
  generalize Ir.kn o.k = q at *
  have hq : q = 7 ∨ q = 8 ∨ q = 9 := by omega
  rcases hq with rfl | rfl | rfl
  · simp
  · simp
  · simp
set_option maxRecDepth 100000 in
theorem where_any (o : Ir.Op) (a : Int) (w : World) :
    Calls Tryz.prog 52 #[.agg (opC o), .int .u32 a] w fun e w' => e = .returned (.tuple #[.int .u32 (Ir.whV o a).1, .bool (Ir.whV o a).2]) ∧ Keeps (fun _ => False) w w' := by
  obtain ⟨k, d, b1, b2, im, t⟩ := o
  have h7 := is_if k
  have h8 := is_out k
  have h9 := is_outr k
  have HV : Hid (Ir.whV ⟨k, d, b1, b2, im, t⟩ a = if (Ir.kn k == 7) = true then (im, a != 0) else if (Ir.kn k == 9) = true then (a, true) else (im, Ir.kn k == 8)) := Lib.hid (by unfold Ir.whV; simp)
  have HN := Lib.hid (op_new w k d b1 b2 im t 85)
  generalize Ir.whV ⟨k, d, b1, b2, im, t⟩ a = r at *
  unfold opC
  generalize (Ir.kn k == 7) = p7 at *
  generalize (Ir.kn k == 8) = p8 at *
  generalize (Ir.kn k == 9) = p9 at *
  cases p7
  · cases p9
    · have HE := Lib.hid (show r = (im, p8) from HV.out)
      go_enter Tryz.func52, Tryz.ntmps52
      go_upto_region 1 with fail
      obtain ⟨hV, hK⟩ := HN.out
      generalize w.alloc _ = w1 at *
      generalize w.heap.size = x at *
      obtain ⟨v0, v1, v2, v3, v4, v5⟩ := hV
      simp only at v0 v1 v2 v3 v4 v5
      have HK := Lib.hid hK
      clear hK HN
      go_upto_region 6 with fail
      go_quiet (fail)
      generalize hwd : World.drewN w1 _ = wd
      have hkd : Keeps (fun _ => False) w1 wd := by rw [← hwd]; exact Keeps.of_drewN _ _ _
      have HKD := Lib.hid hkd
      clear hwd hkd
      go_wp2_with fail
      go_ret2
      exact ⟨by rw [HE.out]; rfl, HK.out.trans HKD.out (fun _ _ h => h)⟩
    · have HE := Lib.hid (show r = (a, true) from HV.out)
      go_enter Tryz.func52, Tryz.ntmps52
      go_upto_region 1 with fail
      obtain ⟨hV, hK⟩ := HN.out
      generalize w.alloc _ = w1 at *
      generalize w.heap.size = x at *
      obtain ⟨v0, v1, v2, v3, v4, v5⟩ := hV
      simp only at v0 v1 v2 v3 v4 v5
      have HK := Lib.hid hK
      clear hK HN
      go_wp2_with fail
      go_ret2
      exact ⟨by rw [HE.out]; rfl, HK.out⟩
  · have HE := Lib.hid (show r = (im, a != 0) from HV.out)
    obtain ⟨z, hz⟩ : ∃ z, (a != 0) = z := ⟨_, rfl⟩
    rw [hz] at HE
    go_enter Tryz.func52, Tryz.ntmps52
    go_upto_region 1 with fail
    obtain ⟨hV, hK⟩ := HN.out
    generalize w.alloc _ = w1 at *
    generalize w.heap.size = x at *
    obtain ⟨v0, v1, v2, v3, v4, v5⟩ := hV
    simp only at v0 v1 v2 v3 v4 v5
    have HK := Lib.hid hK
    clear hK HN
    go_wp2_with fail
    go_ret2
    exact ⟨by rw [HE.out]; rfl, HK.out⟩
set_option maxRecDepth 100000 in
theorem may_any (B mb r pb pw ph cp : Nat) (c : Ir.Mc) (m : Nat → Int) (W : Int → Bool) (a n : Int) (w : World) (ea : Nat → Addr) (E : Errs3 w ea) (M : MachAt w B mb r c) (R : RamAt w r pb pw ph cp m) (hW : WatchAt w pw W) (ha : 0 ≤ a ∧ a < 4294967296) :
    Calls Tryz.prog 91 #[.pointer (some ⟨mb, 0, none⟩), .int .u32 a, .int .i64 n] w fun e w' => e = .returned (.bool (decide (rightC a n = 0 ∧ W (a / 256) = false))) ∧ w = w' := by
  have hm := M.ram
  by_cases h : rightC a n = 0
  · have hr := rightC_ok h
    have HL := Lib.hid (load_okI r pb pw ph cp m a n false w R ha.1 h)
    have HWD := Lib.hid (watched_any r pb pw ph cp m W a w R hW ⟨ha.1, hr.2.2⟩)
    have HE : Hid (decide (rightC a n = 0 ∧ W (a / 256) = false) = !W (a / 256)) := Lib.hid (by rw [Bool.eq_iff_iff]; simp [h])
    generalize decide (rightC a n = 0 ∧ W (a / 256) = false) = q at *
    generalize W (a / 256) = wq at *
    clear M R hW h hr
    go_enter Tryz.func91, Tryz.ntmps91
    go_wp2_with fail
    refine HL.out.mono ?_
    rintro e w' ⟨rfl, rfl⟩
    go_wp2_with fail
    refine HWD.out.mono ?_
    rintro e w' ⟨rfl, rfl⟩
    go_wp2_with fail
    go_ret
    exact ⟨by rw [HE.out]; rfl, rfl⟩
  · have HL := Lib.hid (load_bad ⟨r, 0, none⟩ a n false w ea E ha h)
    have HE : Hid (decide (rightC a n = 0 ∧ W (a / 256) = false) = false) := Lib.hid (by rw [decide_eq_false_iff_not]; exact fun hh => h hh.1)
    generalize decide (rightC a n = 0 ∧ W (a / 256) = false) = q at *
    clear M R hW h
    go_enter Tryz.func91, Tryz.ntmps91
    go_wp2_with fail
    refine HL.out.mono ?_
    rintro e w' ⟨rfl, rfl⟩
    unfold errV
    go_wp2_with fail
    go_ret
    exact ⟨by rw [HE.out]; rfl, rfl⟩
theorem Tryz.info_wt : (Tryz.prog.info? 146).map (fun i => (i.zero, i.size, i.bytes)) = some (some (.agg #[.int .u32 0, .int .i64 0, .int .u32 0]), 3, 24) := by kernel_rfl
theorem owns_ne {w : World} {base e size n b m : Nat} {v : Value} {xs : List Value} {t : TypeId} {f : Nat → Value} (h : w.ownsRow base e size v n xs) (r : w.rowIs b t m f) (hne : e ≠ t) : ∀ g, v.ownBlock = some g → g ≠ b := by
  rintro g hg rfl
  obtain ⟨c, hb, _⟩ := r
  obtain ⟨_, ⟨h2, h3⟩ | ⟨g2, cap', cur, h2, h3, h4, h5, h6, h7, h8⟩⟩ := h
  · rw [h2] at hg; cases hg
  · rw [h2] at hg
    injection hg with hg
    subst hg
    rw [hb] at h4
    injection h4 with h4
    injection h4 with e1 e2 e3
    exact hne e2.symm
theorem wtL_len (l : List Ir.Wt) : (wtL l).length = l.length * 3 := by
  induction l with
  | nil => rfl
  | cons a r ih =>
    have : wtL (a :: r) = [.int .u32 a.addr, .int .i64 a.size, .int .u32 a.v] ++ wtL r := rfl
    rw [this, List.length_append, ih]
    simp
    omega
theorem wtL_snoc (l : List Ir.Wt) (s : Ir.Wt) : wtL (l ++ [s]) = wtL l ++ [.int .u32 s.addr, .int .i64 s.size, .int .u32 s.v] := by
  unfold wtL
  rw [List.flatMap_append]
  rfl
set_option maxHeartbeats 2000000 in
set_option maxRecDepth 100000 in
theorem wait_any (B mb r : Nat) (c : Ir.Mc) (a n v : Int) (w : World) (M : MachAt w B mb r c) (S : Nat → Prop) (hS : S mb ∧ ∀ v, w.cell? ⟨mb, 65, none⟩ = some v → ∀ g, v.ownBlock = some g → S g) (hB : B ≤ w.heap.size) (hl : c.ws.length < 1000000) :
    Calls Tryz.prog 92 #[.pointer (some ⟨mb, 0, none⟩), .int .u32 a, .int .i64 n, .int .u32 v] w fun e w' => e = .returned (.tuple #[]) ∧ MachAt w' B mb r { c with ws := c.ws ++ [⟨a, n, v⟩] } ∧ Keeps S w w' := by
  obtain ⟨i0, hi, hz0, hz1, hz2⟩ := info_parts Tryz.info_wt
  obtain ⟨⟨sv, hrow, hown, hne⟩, hlow⟩ := M
  have hc := rowIs_cell hrow 65 (by omega)
  have hf := rowIs_frozen hrow 65
  rw [machF, if_neg (by omega), if_neg (by omega)] at hc
  have hmx : c.ws.length + 1 ≤ maxLen := by unfold maxLen; omega
  have HSX := Lib.hid hS.1
  have HROW := Lib.hid hrow
  have HNE := Lib.hid hne
  have HLOW := Lib.hid hlow
  have HOWN := Lib.hid hown
  have HLT := Lib.hid (rowIs_lt hrow)
  obtain ⟨A1, cap1, rfl⟩ := owns_slice hown
  have HSG := Lib.hid (hS.2 _ hc)
  clear hS
  have HQ := Lib.hid (show (w.alloc (.cells #[.int .u32 a, .int .i64 n, .int .u32 v] 146)).ownsRow B 146 3 (.slice A1 c.ws.length cap1) c.ws.length (wtL c.ws) from hown.alloc _)
  have HC := Lib.hid (fun j u hj => cells_new w [.int .u32 a, .int .i64 n, .int .u32 v] 146 j u hj)
  have HS := Lib.hid (show B ≤ (w.alloc (.cells #[.int .u32 a, .int .i64 n, .int .u32 v] 146)).heap.size by rw [nblk_alloc]; omega)
  have HA := Lib.hid ((Keeps.refl (fun _ => False) w).alloc (.cells #[.int .u32 a, .int .i64 n, .int .u32 v] 146))
  have HNL := Lib.hid (wtL_snoc c.ws ⟨a, n, v⟩)
  have HLL := Lib.hid (wtL_len c.ws)
  have hone : ∀ u ∈ [Value.int .u32 a, .int .i64 n, .int .u32 v], u.oneCell' = true := by
    intro u hu
    simp only [List.mem_cons, List.not_mem_nil, or_false] at hu
    rcases hu with rfl | rfl | rfl <;> rfl
  have HONE := Lib.hid hone
  clear hrow hown hne hone
  go_enter Tryz.func92, Tryz.ntmps92
  go_wp2_with (at_builtin; go_loud (refine wpList_append_own _ rfl _ _ 103 rfl B 146 i0 _ 3 24 Tryz.underlying103 hi hz0 hz1 hz2 rfl (by decide) (.slice A1 c.ws.length cap1) c.ws.length (wtL c.ws) rfl HQ.out ⟨w.heap.size, 0, none⟩ 1 1 [.int .u32 a, .int .i64 n, .int .u32 v] rfl rfl HC.out HONE.out hmx (by omega) HS.out ?c0))
  case c0 =>
    intro v' w1 hown hgrow hnil
    obtain ⟨A2, cap2, rfl⟩ := owns_slice hown
    have hk := (HA.out.mono (T := fun k => (Value.slice A1 c.ws.length cap1).ownBlock = some k) (fun _ _ h => h.elim)).grown hgrow (fun k hk _ => hk)
    have hr1 := keeps_rowIs hk HROW.out (fun h => HNE.out mb h rfl)
    have HN2 := Lib.hid (owns_ne hown hr1 (by decide))
    have c1 := rowIs_cell hr1 65 (by omega)
    have f1 := rowIs_frozen hr1 65
    rw [machF, if_neg (by omega), if_neg (by omega)] at c1
    have hk2 := Keeps.one w1 mb 65 (.slice A2 (c.ws.length + 1) cap2)
    have HFIN := Lib.hid (show MachAt (w1.setCell ⟨mb, 65, none⟩ (.slice A2 (c.ws.length + 1) cap2)) B mb r { c with ws := c.ws ++ [⟨a, n, v⟩] } from by
      refine ⟨⟨.slice A2 (c.ws.length + 1) cap2, (hr1.set 65 _).congr (fun i hi => ?_), ?_, HN2.out⟩, HLOW.out⟩
      · unfold machF
        by_cases e : i = 65
        · subst e; rfl
        · rw [if_neg e]
          by_cases h64 : i < 64
          · rw [if_pos h64, if_pos h64]
          · rw [if_neg h64, if_neg h64, if_pos (by omega), if_pos (by omega)]
      · rw [HNL.out, show (c.ws ++ [(⟨a, n, v⟩ : Ir.Wt)]).length = c.ws.length + 1 by simp]
        exact owns_keep hown hk2 (fun g hg => HN2.out g hg))
    have HKF := Lib.hid (show Keeps S w (w1.setCell ⟨mb, 65, none⟩ (.slice A2 (c.ws.length + 1) cap2)) from
      Keeps.trans (hk.mono (fun g _ hg => HSG.out g hg)) (hk2.mono (fun g _ hg => by have hg : g = mb := hg; subst hg; exact HSX.out)) (fun _ _ h => h))
    clear hown hgrow hnil hk hr1 hk2 hc hf
    go_wp2_with fail
    exact bodyPost_end (results_none rfl _ _ _) rfl ⟨rfl, HFIN.out, HKF.out⟩
end Go.Proofs.YtgmbladcoikffaaGreatDoor
