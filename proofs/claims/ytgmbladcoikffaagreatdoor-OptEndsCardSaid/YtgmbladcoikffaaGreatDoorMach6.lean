
/- The walk of a machine's do: sums. -/
import Derived.Test.YtgmbladcoikffaaGreatDoorMach5
namespace Go.Proofs.YtgmbladcoikffaaGreatDoor
open Go.RowKit Go.Deep
set_option linter.unusedVariables false
set_option linter.unusedSimpArgs false

set_option maxHeartbeats 4000000 in
set_option maxRecDepth 100000 in
theorem do_sum (B mb r pb pw ph cp : Nat) (c : Ir.Mc) (m : Nat → Int) (W : Int → Bool) (k : ByteArray) (d a b im t : Int) (w : World) (ea : Nat → Addr) (E : Errs3 w ea) (M : MachAt w B mb r c) (R : RamAt w r pb pw ph cp m) (hW : WatchAt w pw W)
    (hok : Ir.McOk W c) (hi : Ir.OpIn ⟨k, d, a, b, im, t⟩) (hk : 10 ≤ Ir.kn k) (S : Nat → Prop) (hS : S mb ∧ ∀ v, w.cell? ⟨mb, 65, none⟩ = some v → ∀ g, v.ownBlock = some g → S g) (hB : B ≤ w.heap.size) (hl : c.ws.length < 1000000) :
    Calls Tryz.prog 54 #[.pointer (some ⟨mb, 0, none⟩), .agg #[.string k, .int .i64 d, .int .i64 a, .int .i64 b, .int .u32 im, .int .i64 t]] w (DoIs B mb r S w (Ir.doOp m W c ⟨k, d, a, b, im, t⟩)) := by
  obtain ⟨_, hid, hia, hib, hil, his, him⟩ := hi
  simp only at hid hia hib hil his him
  obtain ⟨ka, rfl⟩ := Int.eq_ofNat_of_zero_le hia.1
  have hka : ka < 64 := by omega
  obtain ⟨kb, rfl⟩ := Int.eq_ofNat_of_zero_le (hib (by omega)).1
  have hkb : kb < 64 := by have := hib (by omega); omega
  have hzb : (kb : Int) < 64 := by omega
  obtain ⟨kd, rfl⟩ := Int.eq_ofNat_of_zero_le (show 0 ≤ d by have := hid (by omega); omega)
  have hkd : 1 ≤ kd ∧ kd < 64 := by have := hid (by omega); omega
  have hzd : (kd : Int) < 64 := by omega
  have h5 := is_load k
  rw [show (Ir.kn k == 5) = false from by rw [beq_eq_false_iff_ne]; omega] at h5
  have h1 := is_set k
  rw [show (Ir.kn k == 1) = false from by rw [beq_eq_false_iff_ne]; omega] at h1
  have h2 := is_copy k
  rw [show (Ir.kn k == 2) = false from by rw [beq_eq_false_iff_ne]; omega] at h2
  have h3 := is_overp k
  rw [show (Ir.kn k == 3) = false from by rw [beq_eq_false_iff_ne]; omega] at h3
  have h4 := is_overm k
  rw [show (Ir.kn k == 4) = false from by rw [beq_eq_false_iff_ne]; omega] at h4
  have h6 := is_store k
  rw [show (Ir.kn k == 6) = false from by rw [beq_eq_false_iff_ne]; omega] at h6
  have h5n : (k.toList != [108, 111, 97, 100]) = true := by rw [bne, h5]; rfl
  have HRES := Lib.hid (show Ir.doOp m W c ⟨k, (kd : Int), (ka : Int), (kb : Int), im, t⟩ = some { c with X := Ir.setX c.X kd (Ir.value (Ir.kn k) (c.X ka) (c.X kb) (c.X kd)) } by unfold Ir.doOp; simp only [Ir.rg, Int.toNat_natCast]; rw [if_neg (by show ¬ Ir.kn k = 1; omega), if_neg (by show ¬ Ir.kn k = 2; omega), if_neg (by show ¬ (Ir.kn k = 3 ∨ Ir.kn k = 4); omega), if_neg (by show ¬ Ir.kn k = 5; omega), if_neg (by show ¬ Ir.kn k = 6; omega)])
  have HSS := Lib.hid hS.1
  have HSW := Lib.hid (fun (w' : World) (kk : Keeps (fun _ => False) w w') => (show S mb ∧ ∀ v, w'.cell? ⟨mb, 65, none⟩ = some v → ∀ g, v.ownBlock = some g → S g from by
    obtain ⟨A, cap, h65, _⟩ := M.wts
    refine ⟨hS.1, fun v hv g hg => hS.2 _ h65 g ?_⟩
    rw [kk.cell' h65 (fun h => h)] at hv
    injection hv with hv
    rw [hv]
    exact hg))
  clear hS
  have HN := Lib.hid (op_new w k kd ka kb im t 85)
  have HM := Lib.hid M
  have HE := Lib.hid E
  have HR := Lib.hid R
  have HW := Lib.hid hW
  have HOK := Lib.hid hok
  have xa := hok.X ka hka
  have HBW := Lib.hid (fun (w' : World) (kk : Keeps (fun _ => False) w w') => Nat.le_trans hB kk.size)
  have hza : (ka : Int) < 64 := by omega
  clear M E R hW hok hid hia hib hil his hk
  go_enter Tryz.func54, Tryz.ntmps54
  go_upto_region 1 with fail
  obtain ⟨hV, hK⟩ := HN.out
  have HMw1 := Lib.hid (HM.out.keep hK (fun _ _ h => h))
  generalize w.alloc _ = w1 at *
  generalize w.heap.size = x at *
  have HVw1 := Lib.hid hV
  have HKw1 := Lib.hid hK
  clear hV hK HN
  obtain ⟨v0, v1, v2, v3, v4, v5⟩ := HVw1.out
  simp only at v0 v1 v2 v3 v4 v5
  obtain ⟨m0, _⟩ := HMw1.out.reg ka hka
  go_quiet (fail)
  generalize hwd : World.drewN w1 _ = w2
  have hkd : Keeps (fun _ => False) w1 w2 := by rw [← hwd]; exact Keeps.of_drewN _ _ _
  have HKw2 := Lib.hid (HKw1.out.trans hkd (fun _ _ h => h))
  have HMw2 := Lib.hid (HMw1.out.keep hkd (fun _ _ h => h))
  have HVw2 := Lib.hid (HVw1.out.keep hkd (fun h => h))
  clear hwd hkd
  clear m0
  clear v0 v1 v2 v3 v4 v5
  have xb := HOK.out.X kb hkb
  obtain ⟨v0, v1, v2, v3, v4, v5⟩ := HVw2.out
  simp only at v0 v1 v2 v3 v4 v5
  obtain ⟨m0, _⟩ := HMw2.out.reg kb hkb
  go_upto_region 3 with fail
  go_quiet (fail)
  generalize hwd : World.drewN w2 _ = w3
  have hkd : Keeps (fun _ => False) w2 w3 := by rw [← hwd]; exact Keeps.of_drewN _ _ _
  have HKw3 := Lib.hid (HKw2.out.trans hkd (fun _ _ h => h))
  have HMw3 := Lib.hid (HMw2.out.keep hkd (fun _ _ h => h))
  have HVw3 := Lib.hid (HVw2.out.keep hkd (fun h => h))
  clear hwd hkd
  clear m0
  clear v0 v1 v2 v3 v4 v5
  have xd := HOK.out.X kd hkd.2
  have HVQ := Lib.hid (fun w => value_q k (c.X ka) (c.X kb) (c.X kd) w xa xb)
  obtain ⟨vv, hvv⟩ : ∃ vv, Ir.value (Ir.kn k) (c.X ka) (c.X kb) (c.X kd) = vv := ⟨_, rfl⟩
  rw [hvv] at HVQ HRES
  clear hvv
  obtain ⟨v0, v1, v2, v3, v4, v5⟩ := HVw3.out
  simp only at v0 v1 v2 v3 v4 v5
  obtain ⟨m1, m2⟩ := HMw3.out.reg kd hkd.2
  go_upto_region 5 with fail
  go_region_with (first | (go_at_call 93; refine (HVQ.out _).mono ?_; rintro e w4 ⟨rfl, qq, hw4⟩))
  all_goals
    clear hw4 v0 v1 v2 v3 v4 v5 m1 m2
    have hkd2 := Keeps.of_drewN (fun _ => False) w3 (1 + qq)
    have HKw5 := Lib.hid (HKw3.out.trans hkd2 (fun _ _ h => h))
    have HMw5 := Lib.hid (HMw3.out.keep hkd2 (fun _ _ h => h))
    clear hkd2
    generalize w3.drewN (1 + qq) = w5 at *
    obtain ⟨hs1, hs2⟩ := HMw5.out.set kd hkd.2 vv
    have HST := Lib.hid hs1
    have HKS := Lib.hid (Keeps.trans (HKw5.out.mono (T := S) (fun _ _ h => h.elim)) (hs2.mono (fun q _ hq => by have hq : q = mb := hq; subst hq; exact HSS.out)) (fun _ _ h => h))
    clear hs1 hs2
    generalize w5.setCell _ _ = w6 at *
    go_wp2_with fail
    go_ret
    exact DoIs.some HRES.out HKS.out rfl HST.out
end Go.Proofs.YtgmbladcoikffaaGreatDoor
