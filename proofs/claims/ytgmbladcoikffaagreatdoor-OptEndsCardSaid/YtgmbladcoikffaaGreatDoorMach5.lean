
/- The walk of a machine's do. -/
import Derived.Test.YtgmbladcoikffaaGreatDoorMach4
import Derived.Test.YtgmbladcoikffaaGreatDoorValueQ
namespace Go.Proofs.YtgmbladcoikffaaGreatDoor
open Go.RowKit Go.Deep
set_option linter.unusedVariables false
set_option linter.unusedSimpArgs false

set_option maxRecDepth 100000 in
theorem mload_bad (B mb r : Nat) (c : Ir.Mc) (ad b : Int) (n : Nat) (w : World) (ea : Nat → Addr) (E : Errs3 w ea) (M : MachAt w B mb r c) (ha : 0 ≤ ad ∧ ad < 4294967296)
    (hn : n = 1 ∨ n = 2 ∨ n = 4) (hb : b = n ∨ b = -n) (h : rightC ad n ≠ 0) :
    Calls Tryz.prog 90 #[.pointer (some ⟨mb, 0, none⟩), .int .u32 ad, .int .i64 b] w fun e w' => e = .returned (.tuple #[.int .u32 0, .bool false]) ∧ Keeps (fun _ => False) w w' := by
  have hm := M.ram
  have HL := Lib.hid (load_bad ⟨r, 0, none⟩ ad n false w ea E ha h)
  have hb2 : -4 ≤ b ∧ b ≤ 4 := by omega
  have hmax : max b (-b) = (n : Int) := by omega
  clear M h
  go_enter Tryz.func90, Tryz.ntmps90
  go_wp2_with fail
  refine HL.out.mono ?_
  rintro e w1 ⟨rfl, rfl⟩
  unfold errV
  go_wp2_with fail
  go_ret2
  exact ⟨rfl, Keeps.refl _ _⟩
theorem is_overp (k : ByteArray) : (k.toList == [111, 118, 101, 114, 43]) = (Ir.kn k == 3) := Ir.eq_lit2 k 3 (by omega)
/-- what do answers -/
def DoIs (B mb r : Nat) (S : Nat → Prop) (w : World) (res : Option Ir.Mc) (e : Ending) (w' : World) : Prop :=
  Keeps S w w' ∧ match res with
    | none => e = .returned (.bool false)
    | some c => e = .returned (.bool true) ∧ MachAt w' B mb r c
theorem DoIs.none {B mb r : Nat} {S : Nat → Prop} {w w' : World} {res : Option Ir.Mc} {e : Ending} (h : res = Option.none) (k : Keeps S w w') (he : e = .returned (.bool false)) : DoIs B mb r S w res e w' := by
  subst h; exact ⟨k, he⟩
theorem DoIs.some {B mb r : Nat} {S : Nat → Prop} {w w' : World} {res : Option Ir.Mc} {c : Ir.Mc} {e : Ending} (h : res = Option.some c) (k : Keeps S w w') (he : e = .returned (.bool true)) (M : MachAt w' B mb r c) : DoIs B mb r S w res e w' := by
  subst h; exact ⟨k, he, M⟩
set_option maxHeartbeats 4000000 in
set_option maxRecDepth 100000 in
theorem do_set (B mb r pb pw ph cp : Nat) (c : Ir.Mc) (m : Nat → Int) (W : Int → Bool) (k : ByteArray) (d a b im t : Int) (w : World) (ea : Nat → Addr) (E : Errs3 w ea) (M : MachAt w B mb r c) (R : RamAt w r pb pw ph cp m) (hW : WatchAt w pw W)
    (hok : Ir.McOk W c) (hi : Ir.OpIn ⟨k, d, a, b, im, t⟩) (hk : Ir.kn k = 1) (S : Nat → Prop) (hS : S mb ∧ ∀ v, w.cell? ⟨mb, 65, none⟩ = some v → ∀ g, v.ownBlock = some g → S g) (hB : B ≤ w.heap.size) (hl : c.ws.length < 1000000) :
    Calls Tryz.prog 54 #[.pointer (some ⟨mb, 0, none⟩), .agg #[.string k, .int .i64 d, .int .i64 a, .int .i64 b, .int .u32 im, .int .i64 t]] w (DoIs B mb r S w (Ir.doOp m W c ⟨k, d, a, b, im, t⟩)) := by
  obtain ⟨_, hid, hia, hib, hil, his, him⟩ := hi
  simp only at hid hia hib hil his him
  obtain ⟨ka, rfl⟩ := Int.eq_ofNat_of_zero_le hia.1
  have hka : ka < 64 := by omega
  obtain ⟨kb, rfl⟩ := Int.eq_ofNat_of_zero_le (hib (by omega)).1
  have hkb : kb < 64 := by have := hib (by omega); omega
  have hzb : (kb : Int) < 64 := by omega
  obtain ⟨kd, rfl⟩ := Int.eq_ofNat_of_zero_le (show 0 ≤ d by have := hid (by omega); omega)
  have hkd : 1 ≤ kd ∧ kd < 64 := by have := hid (by omega); omega
  have hzd : (kd : Int) < 64 := by omega
  have h5 := is_load k
  rw [hk, show ((1 : Nat) == 5) = false from rfl] at h5
  have h5n : (k.toList != [108, 111, 97, 100]) = true := by rw [bne, h5]; rfl
  have h1 := is_set k
  rw [hk, show ((1 : Nat) == 1) = true from rfl] at h1
  have h2 := is_copy k
  rw [hk, show ((1 : Nat) == 2) = false from rfl] at h2
  have h3 := is_overp k
  rw [hk, show ((1 : Nat) == 3) = false from rfl] at h3
  have h4 := is_overm k
  rw [hk, show ((1 : Nat) == 4) = false from rfl] at h4
  have h6 := is_store k
  rw [hk, show ((1 : Nat) == 6) = false from rfl] at h6
  have HRES := Lib.hid (show Ir.doOp m W c ⟨k, (kd : Int), (ka : Int), (kb : Int), im, t⟩ = some { c with X := Ir.setX c.X kd im } by unfold Ir.doOp; simp [hk, Ir.rg])
  have HSS := Lib.hid hS.1
  have HSW := Lib.hid (fun (w' : World) (kk : Keeps (fun _ => False) w w') => (show S mb ∧ ∀ v, w'.cell? ⟨mb, 65, none⟩ = some v → ∀ g, v.ownBlock = some g → S g from by
    obtain ⟨A, cap, h65, _⟩ := M.wts
    refine ⟨hS.1, fun v hv g hg => hS.2 _ h65 g ?_⟩
    rw [kk.cell' h65 (fun h => h)] at hv
    injection hv with hv
    rw [hv]
    exact hg))
  clear hS
  have HN := Lib.hid (op_new w k kd ka kb im t 85)
  have HM := Lib.hid M
  have HE := Lib.hid E
  have HR := Lib.hid R
  have HW := Lib.hid hW
  have HOK := Lib.hid hok
  have xa := hok.X ka hka
  have HBW := Lib.hid (fun (w' : World) (kk : Keeps (fun _ => False) w w') => Nat.le_trans hB kk.size)
  have hza : (ka : Int) < 64 := by omega
  clear M E R hW hok hid hia hib hil his hk
  go_enter Tryz.func54, Tryz.ntmps54
  go_upto_region 1 with fail
  obtain ⟨hV, hK⟩ := HN.out
  have HMw1 := Lib.hid (HM.out.keep hK (fun _ _ h => h))
  generalize w.alloc _ = w1 at *
  generalize w.heap.size = x at *
  have HVw1 := Lib.hid hV
  have HKw1 := Lib.hid hK
  clear hV hK HN
  obtain ⟨v0, v1, v2, v3, v4, v5⟩ := HVw1.out
  simp only at v0 v1 v2 v3 v4 v5
  obtain ⟨m0, _⟩ := HMw1.out.reg ka hka
  go_quiet (fail)
  generalize hwd : World.drewN w1 _ = w2
  have hkd : Keeps (fun _ => False) w1 w2 := by rw [← hwd]; exact Keeps.of_drewN _ _ _
  have HKw2 := Lib.hid (HKw1.out.trans hkd (fun _ _ h => h))
  have HMw2 := Lib.hid (HMw1.out.keep hkd (fun _ _ h => h))
  have HVw2 := Lib.hid (HVw1.out.keep hkd (fun h => h))
  clear hwd hkd
  clear m0
  clear v0 v1 v2 v3 v4 v5
  have xb := HOK.out.X kb hkb
  obtain ⟨v0, v1, v2, v3, v4, v5⟩ := HVw2.out
  simp only at v0 v1 v2 v3 v4 v5
  obtain ⟨m0, _⟩ := HMw2.out.reg kb hkb
  go_upto_region 3 with fail
  go_quiet (fail)
  generalize hwd : World.drewN w2 _ = w3
  have hkd : Keeps (fun _ => False) w2 w3 := by rw [← hwd]; exact Keeps.of_drewN _ _ _
  have HKw3 := Lib.hid (HKw2.out.trans hkd (fun _ _ h => h))
  have HMw3 := Lib.hid (HMw2.out.keep hkd (fun _ _ h => h))
  have HVw3 := Lib.hid (HVw2.out.keep hkd (fun h => h))
  clear hwd hkd
  clear m0
  clear v0 v1 v2 v3 v4 v5
  obtain ⟨v0, v1, v2, v3, v4, v5⟩ := HVw3.out
  simp only at v0 v1 v2 v3 v4 v5
  obtain ⟨m1, m2⟩ := HMw3.out.reg kd hkd.2
  go_upto_region 7 with fail
  go_still_tail 8, (by kernel_rfl)
  change wpList _ _ _ _ _ w3.drew
  have hkd2 := (Keeps.refl (fun _ => False) w3).drew
  have HKw4 := Lib.hid (HKw3.out.trans hkd2 (fun _ _ h => h))
  have HMw4 := Lib.hid (HMw3.out.keep hkd2 (fun _ _ h => h))
  clear hkd2 m1 m2 v0 v1 v2 v3 v4 v5
  generalize w3.drew = w4 at *
  obtain ⟨m1, m2⟩ := HMw4.out.reg kd hkd.2
  obtain ⟨hs1, hs2⟩ := HMw4.out.set kd hkd.2 (im)
  have HST := Lib.hid hs1
  have HKS := Lib.hid (Keeps.trans (HKw4.out.mono (T := S) (fun _ _ h => h.elim)) (hs2.mono (fun q _ hq => by have hq : q = mb := hq; subst hq; exact HSS.out)) (fun _ _ h => h))
  clear hs1 hs2
  go_wp2_with fail
  go_ret
  exact DoIs.some HRES.out HKS.out rfl HST.out
set_option maxHeartbeats 4000000 in
set_option maxRecDepth 100000 in
theorem do_copy (B mb r pb pw ph cp : Nat) (c : Ir.Mc) (m : Nat → Int) (W : Int → Bool) (k : ByteArray) (d a b im t : Int) (w : World) (ea : Nat → Addr) (E : Errs3 w ea) (M : MachAt w B mb r c) (R : RamAt w r pb pw ph cp m) (hW : WatchAt w pw W)
    (hok : Ir.McOk W c) (hi : Ir.OpIn ⟨k, d, a, b, im, t⟩) (hk : Ir.kn k = 2) (S : Nat → Prop) (hS : S mb ∧ ∀ v, w.cell? ⟨mb, 65, none⟩ = some v → ∀ g, v.ownBlock = some g → S g) (hB : B ≤ w.heap.size) (hl : c.ws.length < 1000000) :
    Calls Tryz.prog 54 #[.pointer (some ⟨mb, 0, none⟩), .agg #[.string k, .int .i64 d, .int .i64 a, .int .i64 b, .int .u32 im, .int .i64 t]] w (DoIs B mb r S w (Ir.doOp m W c ⟨k, d, a, b, im, t⟩)) := by
  obtain ⟨_, hid, hia, hib, hil, his, him⟩ := hi
  simp only at hid hia hib hil his him
  obtain ⟨ka, rfl⟩ := Int.eq_ofNat_of_zero_le hia.1
  have hka : ka < 64 := by omega
  obtain ⟨kb, rfl⟩ := Int.eq_ofNat_of_zero_le (hib (by omega)).1
  have hkb : kb < 64 := by have := hib (by omega); omega
  have hzb : (kb : Int) < 64 := by omega
  obtain ⟨kd, rfl⟩ := Int.eq_ofNat_of_zero_le (show 0 ≤ d by have := hid (by omega); omega)
  have hkd : 1 ≤ kd ∧ kd < 64 := by have := hid (by omega); omega
  have hzd : (kd : Int) < 64 := by omega
  have h5 := is_load k
  rw [hk, show ((2 : Nat) == 5) = false from rfl] at h5
  have h5n : (k.toList != [108, 111, 97, 100]) = true := by rw [bne, h5]; rfl
  have h1 := is_set k
  rw [hk, show ((2 : Nat) == 1) = false from rfl] at h1
  have h2 := is_copy k
  rw [hk, show ((2 : Nat) == 2) = true from rfl] at h2
  have h3 := is_overp k
  rw [hk, show ((2 : Nat) == 3) = false from rfl] at h3
  have h4 := is_overm k
  rw [hk, show ((2 : Nat) == 4) = false from rfl] at h4
  have h6 := is_store k
  rw [hk, show ((2 : Nat) == 6) = false from rfl] at h6
  have HRES := Lib.hid (show Ir.doOp m W c ⟨k, (kd : Int), (ka : Int), (kb : Int), im, t⟩ = some { c with X := Ir.setX c.X kd (c.X ka) } by unfold Ir.doOp; simp [hk, Ir.rg])
  have HSS := Lib.hid hS.1
  have HSW := Lib.hid (fun (w' : World) (kk : Keeps (fun _ => False) w w') => (show S mb ∧ ∀ v, w'.cell? ⟨mb, 65, none⟩ = some v → ∀ g, v.ownBlock = some g → S g from by
    obtain ⟨A, cap, h65, _⟩ := M.wts
    refine ⟨hS.1, fun v hv g hg => hS.2 _ h65 g ?_⟩
    rw [kk.cell' h65 (fun h => h)] at hv
    injection hv with hv
    rw [hv]
    exact hg))
  clear hS
  have HN := Lib.hid (op_new w k kd ka kb im t 85)
  have HM := Lib.hid M
  have HE := Lib.hid E
  have HR := Lib.hid R
  have HW := Lib.hid hW
  have HOK := Lib.hid hok
  have xa := hok.X ka hka
  have HBW := Lib.hid (fun (w' : World) (kk : Keeps (fun _ => False) w w') => Nat.le_trans hB kk.size)
  have hza : (ka : Int) < 64 := by omega
  clear M E R hW hok hid hia hib hil his hk
  go_enter Tryz.func54, Tryz.ntmps54
  go_upto_region 1 with fail
  obtain ⟨hV, hK⟩ := HN.out
  have HMw1 := Lib.hid (HM.out.keep hK (fun _ _ h => h))
  generalize w.alloc _ = w1 at *
  generalize w.heap.size = x at *
  have HVw1 := Lib.hid hV
  have HKw1 := Lib.hid hK
  clear hV hK HN
  obtain ⟨v0, v1, v2, v3, v4, v5⟩ := HVw1.out
  simp only at v0 v1 v2 v3 v4 v5
  obtain ⟨m0, _⟩ := HMw1.out.reg ka hka
  go_quiet (fail)
  generalize hwd : World.drewN w1 _ = w2
  have hkd : Keeps (fun _ => False) w1 w2 := by rw [← hwd]; exact Keeps.of_drewN _ _ _
  have HKw2 := Lib.hid (HKw1.out.trans hkd (fun _ _ h => h))
  have HMw2 := Lib.hid (HMw1.out.keep hkd (fun _ _ h => h))
  have HVw2 := Lib.hid (HVw1.out.keep hkd (fun h => h))
  clear hwd hkd
  clear m0
  clear v0 v1 v2 v3 v4 v5
  have xb := HOK.out.X kb hkb
  obtain ⟨v0, v1, v2, v3, v4, v5⟩ := HVw2.out
  simp only at v0 v1 v2 v3 v4 v5
  obtain ⟨m0, _⟩ := HMw2.out.reg kb hkb
  go_upto_region 3 with fail
  go_quiet (fail)
  generalize hwd : World.drewN w2 _ = w3
  have hkd : Keeps (fun _ => False) w2 w3 := by rw [← hwd]; exact Keeps.of_drewN _ _ _
  have HKw3 := Lib.hid (HKw2.out.trans hkd (fun _ _ h => h))
  have HMw3 := Lib.hid (HMw2.out.keep hkd (fun _ _ h => h))
  have HVw3 := Lib.hid (HVw2.out.keep hkd (fun h => h))
  clear hwd hkd
  clear m0
  clear v0 v1 v2 v3 v4 v5
  obtain ⟨v0, v1, v2, v3, v4, v5⟩ := HVw3.out
  simp only at v0 v1 v2 v3 v4 v5
  obtain ⟨m1, m2⟩ := HMw3.out.reg kd hkd.2
  go_upto_region 9 with fail
  go_still_tail 7, (by kernel_rfl)
  change wpList _ _ _ _ _ w3.drew
  have hkd2 := (Keeps.refl (fun _ => False) w3).drew
  have HKw4 := Lib.hid (HKw3.out.trans hkd2 (fun _ _ h => h))
  have HMw4 := Lib.hid (HMw3.out.keep hkd2 (fun _ _ h => h))
  clear hkd2 m1 m2 v0 v1 v2 v3 v4 v5
  generalize w3.drew = w4 at *
  obtain ⟨m1, m2⟩ := HMw4.out.reg kd hkd.2
  obtain ⟨hs1, hs2⟩ := HMw4.out.set kd hkd.2 (c.X ka)
  have HST := Lib.hid hs1
  have HKS := Lib.hid (Keeps.trans (HKw4.out.mono (T := S) (fun _ _ h => h.elim)) (hs2.mono (fun q _ hq => by have hq : q = mb := hq; subst hq; exact HSS.out)) (fun _ _ h => h))
  clear hs1 hs2
  go_wp2_with fail
  go_ret
  exact DoIs.some HRES.out HKS.out rfl HST.out
set_option maxHeartbeats 4000000 in
set_option maxRecDepth 100000 in
theorem do_overp (B mb r pb pw ph cp : Nat) (c : Ir.Mc) (m : Nat → Int) (W : Int → Bool) (k : ByteArray) (d a b im t : Int) (w : World) (ea : Nat → Addr) (E : Errs3 w ea) (M : MachAt w B mb r c) (R : RamAt w r pb pw ph cp m) (hW : WatchAt w pw W)
    (hok : Ir.McOk W c) (hi : Ir.OpIn ⟨k, d, a, b, im, t⟩) (hk : Ir.kn k = 3) (S : Nat → Prop) (hS : S mb ∧ ∀ v, w.cell? ⟨mb, 65, none⟩ = some v → ∀ g, v.ownBlock = some g → S g) (hB : B ≤ w.heap.size) (hl : c.ws.length < 1000000) :
    Calls Tryz.prog 54 #[.pointer (some ⟨mb, 0, none⟩), .agg #[.string k, .int .i64 d, .int .i64 a, .int .i64 b, .int .u32 im, .int .i64 t]] w (DoIs B mb r S w (Ir.doOp m W c ⟨k, d, a, b, im, t⟩)) := by
  obtain ⟨_, hid, hia, hib, hil, his, him⟩ := hi
  simp only at hid hia hib hil his him
  obtain ⟨ka, rfl⟩ := Int.eq_ofNat_of_zero_le hia.1
  have hka : ka < 64 := by omega
  obtain ⟨kb, rfl⟩ := Int.eq_ofNat_of_zero_le (hib (by omega)).1
  have hkb : kb < 64 := by have := hib (by omega); omega
  have hzb : (kb : Int) < 64 := by omega
  have h5 := is_load k
  rw [hk, show ((3 : Nat) == 5) = false from rfl] at h5
  have h5n : (k.toList != [108, 111, 97, 100]) = true := by rw [bne, h5]; rfl
  have h1 := is_set k
  rw [hk, show ((3 : Nat) == 1) = false from rfl] at h1
  have h2 := is_copy k
  rw [hk, show ((3 : Nat) == 2) = false from rfl] at h2
  have h3 := is_overp k
  rw [hk, show ((3 : Nat) == 3) = true from rfl] at h3
  have h4 := is_overm k
  rw [hk, show ((3 : Nat) == 4) = false from rfl] at h4
  have h6 := is_store k
  rw [hk, show ((3 : Nat) == 6) = false from rfl] at h6
  have HRES := Lib.hid (show Ir.doOp m W c ⟨k, d, (ka : Int), (kb : Int), im, t⟩ = if Ir.overV (Ir.kn k) (c.X ka) (c.X kb) = true then none else some c by unfold Ir.doOp; simp [hk, Ir.rg])
  have HSS := Lib.hid hS.1
  have HSW := Lib.hid (fun (w' : World) (kk : Keeps (fun _ => False) w w') => (show S mb ∧ ∀ v, w'.cell? ⟨mb, 65, none⟩ = some v → ∀ g, v.ownBlock = some g → S g from by
    obtain ⟨A, cap, h65, _⟩ := M.wts
    refine ⟨hS.1, fun v hv g hg => hS.2 _ h65 g ?_⟩
    rw [kk.cell' h65 (fun h => h)] at hv
    injection hv with hv
    rw [hv]
    exact hg))
  clear hS
  have HN := Lib.hid (op_new w k d ka kb im t 85)
  have HM := Lib.hid M
  have HE := Lib.hid E
  have HR := Lib.hid R
  have HW := Lib.hid hW
  have HOK := Lib.hid hok
  have xa := hok.X ka hka
  have HBW := Lib.hid (fun (w' : World) (kk : Keeps (fun _ => False) w w') => Nat.le_trans hB kk.size)
  have hza : (ka : Int) < 64 := by omega
  clear M E R hW hok hid hia hib hil his hk
  go_enter Tryz.func54, Tryz.ntmps54
  go_upto_region 1 with fail
  obtain ⟨hV, hK⟩ := HN.out
  have HMw1 := Lib.hid (HM.out.keep hK (fun _ _ h => h))
  generalize w.alloc _ = w1 at *
  generalize w.heap.size = x at *
  have HVw1 := Lib.hid hV
  have HKw1 := Lib.hid hK
  clear hV hK HN
  obtain ⟨v0, v1, v2, v3, v4, v5⟩ := HVw1.out
  simp only at v0 v1 v2 v3 v4 v5
  obtain ⟨m0, _⟩ := HMw1.out.reg ka hka
  go_quiet (fail)
  generalize hwd : World.drewN w1 _ = w2
  have hkd : Keeps (fun _ => False) w1 w2 := by rw [← hwd]; exact Keeps.of_drewN _ _ _
  have HKw2 := Lib.hid (HKw1.out.trans hkd (fun _ _ h => h))
  have HMw2 := Lib.hid (HMw1.out.keep hkd (fun _ _ h => h))
  have HVw2 := Lib.hid (HVw1.out.keep hkd (fun h => h))
  clear hwd hkd
  clear m0
  clear v0 v1 v2 v3 v4 v5
  have xb := HOK.out.X kb hkb
  obtain ⟨v0, v1, v2, v3, v4, v5⟩ := HVw2.out
  simp only at v0 v1 v2 v3 v4 v5
  obtain ⟨m0, _⟩ := HMw2.out.reg kb hkb
  go_upto_region 3 with fail
  go_quiet (fail)
  generalize hwd : World.drewN w2 _ = w3
  have hkd : Keeps (fun _ => False) w2 w3 := by rw [← hwd]; exact Keeps.of_drewN _ _ _
  have HKw3 := Lib.hid (HKw2.out.trans hkd (fun _ _ h => h))
  have HMw3 := Lib.hid (HMw2.out.keep hkd (fun _ _ h => h))
  have HVw3 := Lib.hid (HVw2.out.keep hkd (fun h => h))
  clear hwd hkd
  clear m0
  clear v0 v1 v2 v3 v4 v5
  have HOV := Lib.hid (fun w => over_any k (c.X ka) (c.X kb) w xa xb)
  obtain ⟨ov, hov⟩ : ∃ ov, Ir.overV (Ir.kn k) (c.X ka) (c.X kb) = ov := ⟨_, rfl⟩
  rw [hov] at HOV HRES
  clear hov
  obtain ⟨v0, v1, v2, v3, v4, v5⟩ := HVw3.out
  simp only at v0 v1 v2 v3 v4 v5
  go_wp2_with fail
  refine (HOV.out _).mono ?_
  rintro e w4 ⟨rfl, rfl⟩
  have HKS := Lib.hid (HKw3.out.mono (T := S) (fun _ _ h => h.elim))
  cases ov
  · go_wp2_with fail
    go_ret
    exact DoIs.some (HRES.out.trans rfl) HKS.out rfl HMw3.out
  · go_wp2_with fail
    go_ret
    exact DoIs.none (HRES.out.trans rfl) HKS.out rfl
set_option maxHeartbeats 4000000 in
set_option maxRecDepth 100000 in
theorem do_overm (B mb r pb pw ph cp : Nat) (c : Ir.Mc) (m : Nat → Int) (W : Int → Bool) (k : ByteArray) (d a b im t : Int) (w : World) (ea : Nat → Addr) (E : Errs3 w ea) (M : MachAt w B mb r c) (R : RamAt w r pb pw ph cp m) (hW : WatchAt w pw W)
    (hok : Ir.McOk W c) (hi : Ir.OpIn ⟨k, d, a, b, im, t⟩) (hk : Ir.kn k = 4) (S : Nat → Prop) (hS : S mb ∧ ∀ v, w.cell? ⟨mb, 65, none⟩ = some v → ∀ g, v.ownBlock = some g → S g) (hB : B ≤ w.heap.size) (hl : c.ws.length < 1000000) :
    Calls Tryz.prog 54 #[.pointer (some ⟨mb, 0, none⟩), .agg #[.string k, .int .i64 d, .int .i64 a, .int .i64 b, .int .u32 im, .int .i64 t]] w (DoIs B mb r S w (Ir.doOp m W c ⟨k, d, a, b, im, t⟩)) := by
  obtain ⟨_, hid, hia, hib, hil, his, him⟩ := hi
  simp only at hid hia hib hil his him
  obtain ⟨ka, rfl⟩ := Int.eq_ofNat_of_zero_le hia.1
  have hka : ka < 64 := by omega
  obtain ⟨kb, rfl⟩ := Int.eq_ofNat_of_zero_le (hib (by omega)).1
  have hkb : kb < 64 := by have := hib (by omega); omega
  have hzb : (kb : Int) < 64 := by omega
  have h5 := is_load k
  rw [hk, show ((4 : Nat) == 5) = false from rfl] at h5
  have h5n : (k.toList != [108, 111, 97, 100]) = true := by rw [bne, h5]; rfl
  have h1 := is_set k
  rw [hk, show ((4 : Nat) == 1) = false from rfl] at h1
  have h2 := is_copy k
  rw [hk, show ((4 : Nat) == 2) = false from rfl] at h2
  have h3 := is_overp k
  rw [hk, show ((4 : Nat) == 3) = false from rfl] at h3
  have h4 := is_overm k
  rw [hk, show ((4 : Nat) == 4) = true from rfl] at h4
  have h6 := is_store k
  rw [hk, show ((4 : Nat) == 6) = false from rfl] at h6
  have HRES := Lib.hid (show Ir.doOp m W c ⟨k, d, (ka : Int), (kb : Int), im, t⟩ = if Ir.overV (Ir.kn k) (c.X ka) (c.X kb) = true then none else some c by unfold Ir.doOp; simp [hk, Ir.rg])
  have HSS := Lib.hid hS.1
  have HSW := Lib.hid (fun (w' : World) (kk : Keeps (fun _ => False) w w') => (show S mb ∧ ∀ v, w'.cell? ⟨mb, 65, none⟩ = some v → ∀ g, v.ownBlock = some g → S g from by
    obtain ⟨A, cap, h65, _⟩ := M.wts
    refine ⟨hS.1, fun v hv g hg => hS.2 _ h65 g ?_⟩
    rw [kk.cell' h65 (fun h => h)] at hv
    injection hv with hv
    rw [hv]
    exact hg))
  clear hS
  have HN := Lib.hid (op_new w k d ka kb im t 85)
  have HM := Lib.hid M
  have HE := Lib.hid E
  have HR := Lib.hid R
  have HW := Lib.hid hW
  have HOK := Lib.hid hok
  have xa := hok.X ka hka
  have HBW := Lib.hid (fun (w' : World) (kk : Keeps (fun _ => False) w w') => Nat.le_trans hB kk.size)
  have hza : (ka : Int) < 64 := by omega
  clear M E R hW hok hid hia hib hil his hk
  go_enter Tryz.func54, Tryz.ntmps54
  go_upto_region 1 with fail
  obtain ⟨hV, hK⟩ := HN.out
  have HMw1 := Lib.hid (HM.out.keep hK (fun _ _ h => h))
  generalize w.alloc _ = w1 at *
  generalize w.heap.size = x at *
  have HVw1 := Lib.hid hV
  have HKw1 := Lib.hid hK
  clear hV hK HN
  obtain ⟨v0, v1, v2, v3, v4, v5⟩ := HVw1.out
  simp only at v0 v1 v2 v3 v4 v5
  obtain ⟨m0, _⟩ := HMw1.out.reg ka hka
  go_quiet (fail)
  generalize hwd : World.drewN w1 _ = w2
  have hkd : Keeps (fun _ => False) w1 w2 := by rw [← hwd]; exact Keeps.of_drewN _ _ _
  have HKw2 := Lib.hid (HKw1.out.trans hkd (fun _ _ h => h))
  have HMw2 := Lib.hid (HMw1.out.keep hkd (fun _ _ h => h))
  have HVw2 := Lib.hid (HVw1.out.keep hkd (fun h => h))
  clear hwd hkd
  clear m0
  clear v0 v1 v2 v3 v4 v5
  have xb := HOK.out.X kb hkb
  obtain ⟨v0, v1, v2, v3, v4, v5⟩ := HVw2.out
  simp only at v0 v1 v2 v3 v4 v5
  obtain ⟨m0, _⟩ := HMw2.out.reg kb hkb
  go_upto_region 3 with fail
  go_quiet (fail)
  generalize hwd : World.drewN w2 _ = w3
  have hkd : Keeps (fun _ => False) w2 w3 := by rw [← hwd]; exact Keeps.of_drewN _ _ _
  have HKw3 := Lib.hid (HKw2.out.trans hkd (fun _ _ h => h))
  have HMw3 := Lib.hid (HMw2.out.keep hkd (fun _ _ h => h))
  have HVw3 := Lib.hid (HVw2.out.keep hkd (fun h => h))
  clear hwd hkd
  clear m0
  clear v0 v1 v2 v3 v4 v5
  have HOV := Lib.hid (fun w => over_any k (c.X ka) (c.X kb) w xa xb)
  obtain ⟨ov, hov⟩ : ∃ ov, Ir.overV (Ir.kn k) (c.X ka) (c.X kb) = ov := ⟨_, rfl⟩
  rw [hov] at HOV HRES
  clear hov
  obtain ⟨v0, v1, v2, v3, v4, v5⟩ := HVw3.out
  simp only at v0 v1 v2 v3 v4 v5
  go_wp2_with fail
  refine (HOV.out _).mono ?_
  rintro e w4 ⟨rfl, rfl⟩
  have HKS := Lib.hid (HKw3.out.mono (T := S) (fun _ _ h => h.elim))
  cases ov
  · go_wp2_with fail
    go_ret
    exact DoIs.some (HRES.out.trans rfl) HKS.out rfl HMw3.out
  · go_wp2_with fail
    go_ret
    exact DoIs.none (HRES.out.trans rfl) HKS.out rfl
set_option maxHeartbeats 4000000 in
set_option maxRecDepth 100000 in
theorem do_store (B mb r pb pw ph cp : Nat) (c : Ir.Mc) (m : Nat → Int) (W : Int → Bool) (k : ByteArray) (d a b im t : Int) (w : World) (ea : Nat → Addr) (E : Errs3 w ea) (M : MachAt w B mb r c) (R : RamAt w r pb pw ph cp m) (hW : WatchAt w pw W)
    (hok : Ir.McOk W c) (hi : Ir.OpIn ⟨k, d, a, b, im, t⟩) (hk : Ir.kn k = 6) (S : Nat → Prop) (hS : S mb ∧ ∀ v, w.cell? ⟨mb, 65, none⟩ = some v → ∀ g, v.ownBlock = some g → S g) (hB : B ≤ w.heap.size) (hl : c.ws.length < 1000000) :
    Calls Tryz.prog 54 #[.pointer (some ⟨mb, 0, none⟩), .agg #[.string k, .int .i64 d, .int .i64 a, .int .i64 b, .int .u32 im, .int .i64 t]] w (DoIs B mb r S w (Ir.doOp m W c ⟨k, d, a, b, im, t⟩)) := by
  obtain ⟨_, hid, hia, hib, hil, his, him⟩ := hi
  simp only at hid hia hib hil his him
  obtain ⟨ka, rfl⟩ := Int.eq_ofNat_of_zero_le hia.1
  have hka : ka < 64 := by omega
  obtain ⟨kb, rfl⟩ := Int.eq_ofNat_of_zero_le (hib (by omega)).1
  have hkb : kb < 64 := by have := hib (by omega); omega
  have hzb : (kb : Int) < 64 := by omega
  have h5 := is_load k
  rw [hk, show ((6 : Nat) == 5) = false from rfl] at h5
  have h5n : (k.toList != [108, 111, 97, 100]) = true := by rw [bne, h5]; rfl
  have h1 := is_set k
  rw [hk, show ((6 : Nat) == 1) = false from rfl] at h1
  have h2 := is_copy k
  rw [hk, show ((6 : Nat) == 2) = false from rfl] at h2
  have h3 := is_overp k
  rw [hk, show ((6 : Nat) == 3) = false from rfl] at h3
  have h4 := is_overm k
  rw [hk, show ((6 : Nat) == 4) = false from rfl] at h4
  have h6 := is_store k
  rw [hk, show ((6 : Nat) == 6) = true from rfl] at h6
  have hsz := his hk
  have HRES := Lib.hid (show Ir.doOp m W c ⟨k, d, (ka : Int), (kb : Int), im, t⟩ = if rightC (Ir.adr (c.X ka) im) d = 0 ∧ W (Ir.adr (c.X ka) im / 256) = false then some { c with ws := c.ws ++ [⟨Ir.adr (c.X ka) im, d, c.X kb⟩] } else none by unfold Ir.doOp; simp [hk, Ir.rg]; try congr)
  have HSS := Lib.hid hS.1
  have HSW := Lib.hid (fun (w' : World) (kk : Keeps (fun _ => False) w w') => (show S mb ∧ ∀ v, w'.cell? ⟨mb, 65, none⟩ = some v → ∀ g, v.ownBlock = some g → S g from by
    obtain ⟨A, cap, h65, _⟩ := M.wts
    refine ⟨hS.1, fun v hv g hg => hS.2 _ h65 g ?_⟩
    rw [kk.cell' h65 (fun h => h)] at hv
    injection hv with hv
    rw [hv]
    exact hg))
  clear hS
  have HN := Lib.hid (op_new w k d ka kb im t 85)
  have HM := Lib.hid M
  have HE := Lib.hid E
  have HR := Lib.hid R
  have HW := Lib.hid hW
  have HOK := Lib.hid hok
  have xa := hok.X ka hka
  have HBW := Lib.hid (fun (w' : World) (kk : Keeps (fun _ => False) w w') => Nat.le_trans hB kk.size)
  have hza : (ka : Int) < 64 := by omega
  clear M E R hW hok hid hia hib hil his hk
  go_enter Tryz.func54, Tryz.ntmps54
  go_upto_region 1 with fail
  obtain ⟨hV, hK⟩ := HN.out
  have HMw1 := Lib.hid (HM.out.keep hK (fun _ _ h => h))
  generalize w.alloc _ = w1 at *
  generalize w.heap.size = x at *
  have HVw1 := Lib.hid hV
  have HKw1 := Lib.hid hK
  clear hV hK HN
  obtain ⟨v0, v1, v2, v3, v4, v5⟩ := HVw1.out
  simp only at v0 v1 v2 v3 v4 v5
  obtain ⟨m0, _⟩ := HMw1.out.reg ka hka
  go_quiet (fail)
  generalize hwd : World.drewN w1 _ = w2
  have hkd : Keeps (fun _ => False) w1 w2 := by rw [← hwd]; exact Keeps.of_drewN _ _ _
  have HKw2 := Lib.hid (HKw1.out.trans hkd (fun _ _ h => h))
  have HMw2 := Lib.hid (HMw1.out.keep hkd (fun _ _ h => h))
  have HVw2 := Lib.hid (HVw1.out.keep hkd (fun h => h))
  clear hwd hkd
  clear m0
  clear v0 v1 v2 v3 v4 v5
  have xb := HOK.out.X kb hkb
  obtain ⟨v0, v1, v2, v3, v4, v5⟩ := HVw2.out
  simp only at v0 v1 v2 v3 v4 v5
  obtain ⟨m0, _⟩ := HMw2.out.reg kb hkb
  go_upto_region 3 with fail
  go_quiet (fail)
  generalize hwd : World.drewN w2 _ = w3
  have hkd : Keeps (fun _ => False) w2 w3 := by rw [← hwd]; exact Keeps.of_drewN _ _ _
  have HKw3 := Lib.hid (HKw2.out.trans hkd (fun _ _ h => h))
  have HMw3 := Lib.hid (HMw2.out.keep hkd (fun _ _ h => h))
  have HVw3 := Lib.hid (HVw2.out.keep hkd (fun h => h))
  clear hwd hkd
  clear m0
  clear v0 v1 v2 v3 v4 v5
  have had : (c.X ka + im) % 4294967296 = Ir.adr (c.X ka) im := rfl
  have hadr : 0 ≤ Ir.adr (c.X ka) im ∧ Ir.adr (c.X ka) im < 4294967296 := by unfold Ir.adr; omega
  have HMAY := Lib.hid (may_any B mb r pb pw ph cp c m W (Ir.adr (c.X ka) im) d w3 ea (HE.out.keep HKw3.out ⟨fun h => h, fun h => h, fun h => h⟩) HMw3.out (HR.out.keep HKw3.out (fun h => h) (fun h => h)) (HW.out.keep HKw3.out (fun h => h)) hadr)
  generalize Ir.adr (c.X ka) im = ad at *
  obtain ⟨q, hq⟩ : ∃ q, decide (rightC ad d = 0 ∧ W (ad / 256) = false) = q := ⟨_, rfl⟩
  rw [hq] at HMAY
  have HRES2 := Lib.hid (show Ir.doOp m W c ⟨k, d, (ka : Int), (kb : Int), im, t⟩ = if q = true then some { c with ws := c.ws ++ [⟨ad, d, c.X kb⟩] } else none by
    rw [HRES.out, ← hq]
    simp)
  clear hq
  have HKS := Lib.hid (HKw3.out.mono (T := S) (fun _ _ h => h.elim))
  obtain ⟨v0, v1, v2, v3, v4, v5⟩ := HVw3.out
  simp only at v0 v1 v2 v3 v4 v5
  go_wp2_with fail
  refine HMAY.out.mono ?_
  rintro e w4 ⟨rfl, rfl⟩
  cases q
  · go_wp2_with fail
    go_ret
    exact DoIs.none (HRES2.out.trans rfl) HKS.out rfl
  · have hB3 : B ≤ w3.heap.size := HBW.out w3 HKw3.out
    have HWT := Lib.hid (wait_any B mb r c ad d (c.X kb) w3 HMw3.out S (HSW.out w3 HKw3.out) hB3 hl)
    go_wp2_with fail
    refine HWT.out.mono ?_
    rintro e w5 ⟨rfl, hM5, hk5⟩
    have HM5 := Lib.hid hM5
    have HK5 := Lib.hid (HKS.out.trans hk5 (fun _ _ h => h))
    clear hM5 hk5 v0 v1 v2 v3 v4 v5
    go_wp2_with fail
    go_ret
    exact DoIs.some (HRES2.out.trans rfl) HK5.out rfl HM5.out
set_option maxHeartbeats 4000000 in
set_option maxRecDepth 100000 in
theorem do_load (B mb r pb pw ph cp : Nat) (c : Ir.Mc) (m : Nat → Int) (W : Int → Bool) (k : ByteArray) (d a b im t : Int) (w : World) (ea : Nat → Addr) (E : Errs3 w ea) (M : MachAt w B mb r c) (R : RamAt w r pb pw ph cp m) (hW : WatchAt w pw W)
    (hok : Ir.McOk W c) (hi : Ir.OpIn ⟨k, d, a, b, im, t⟩) (hk : Ir.kn k = 5) (S : Nat → Prop) (hS : S mb ∧ ∀ v, w.cell? ⟨mb, 65, none⟩ = some v → ∀ g, v.ownBlock = some g → S g) (hB : B ≤ w.heap.size) (hl : c.ws.length < 1000000) :
    Calls Tryz.prog 54 #[.pointer (some ⟨mb, 0, none⟩), .agg #[.string k, .int .i64 d, .int .i64 a, .int .i64 b, .int .u32 im, .int .i64 t]] w (DoIs B mb r S w (Ir.doOp m W c ⟨k, d, a, b, im, t⟩)) := by
  obtain ⟨_, hid, hia, hib, hil, his, him⟩ := hi
  simp only at hid hia hib hil his him
  obtain ⟨ka, rfl⟩ := Int.eq_ofNat_of_zero_le hia.1
  have hka : ka < 64 := by omega
  obtain ⟨kd, rfl⟩ := Int.eq_ofNat_of_zero_le (show 0 ≤ d by have := hid (by omega); omega)
  have hkd : 1 ≤ kd ∧ kd < 64 := by have := hid (by omega); omega
  have hzd : (kd : Int) < 64 := by omega
  have hbb := hil hk
  have h5 := is_load k
  rw [hk, show ((5 : Nat) == 5) = true from rfl] at h5
  have h5n : (k.toList != [108, 111, 97, 100]) = false := by rw [bne, h5]; rfl
  have h1 := is_set k
  rw [hk, show ((5 : Nat) == 1) = false from rfl] at h1
  have h2 := is_copy k
  rw [hk, show ((5 : Nat) == 2) = false from rfl] at h2
  have h3 := is_overp k
  rw [hk, show ((5 : Nat) == 3) = false from rfl] at h3
  have h4 := is_overm k
  rw [hk, show ((5 : Nat) == 4) = false from rfl] at h4
  have h6 := is_store k
  rw [hk, show ((5 : Nat) == 6) = false from rfl] at h6
  have HRES := Lib.hid (show Ir.doOp m W c ⟨k, (kd : Int), (ka : Int), b, im, t⟩ = if rightC (Ir.adr (c.X ka) im) b.natAbs = 0 then some { c with X := Ir.setX c.X kd (Ir.loadV m c.ws (Ir.adr (c.X ka) im) b) } else none by unfold Ir.doOp; simp [hk, Ir.rg]; try congr)
  have HSS := Lib.hid hS.1
  have HSW := Lib.hid (fun (w' : World) (kk : Keeps (fun _ => False) w w') => (show S mb ∧ ∀ v, w'.cell? ⟨mb, 65, none⟩ = some v → ∀ g, v.ownBlock = some g → S g from by
    obtain ⟨A, cap, h65, _⟩ := M.wts
    refine ⟨hS.1, fun v hv g hg => hS.2 _ h65 g ?_⟩
    rw [kk.cell' h65 (fun h => h)] at hv
    injection hv with hv
    rw [hv]
    exact hg))
  clear hS
  have HN := Lib.hid (op_new w k kd ka b im t 85)
  have HM := Lib.hid M
  have HE := Lib.hid E
  have HR := Lib.hid R
  have HW := Lib.hid hW
  have HOK := Lib.hid hok
  have xa := hok.X ka hka
  have HBW := Lib.hid (fun (w' : World) (kk : Keeps (fun _ => False) w w') => Nat.le_trans hB kk.size)
  have hza : (ka : Int) < 64 := by omega
  clear M E R hW hok hid hia hib hil his hk
  go_enter Tryz.func54, Tryz.ntmps54
  go_upto_region 1 with fail
  obtain ⟨hV, hK⟩ := HN.out
  have HMw1 := Lib.hid (HM.out.keep hK (fun _ _ h => h))
  generalize w.alloc _ = w1 at *
  generalize w.heap.size = x at *
  have HVw1 := Lib.hid hV
  have HKw1 := Lib.hid hK
  clear hV hK HN
  obtain ⟨v0, v1, v2, v3, v4, v5⟩ := HVw1.out
  simp only at v0 v1 v2 v3 v4 v5
  obtain ⟨m0, _⟩ := HMw1.out.reg ka hka
  go_quiet (fail)
  generalize hwd : World.drewN w1 _ = w2
  have hkd : Keeps (fun _ => False) w1 w2 := by rw [← hwd]; exact Keeps.of_drewN _ _ _
  have HKw2 := Lib.hid (HKw1.out.trans hkd (fun _ _ h => h))
  have HMw2 := Lib.hid (HMw1.out.keep hkd (fun _ _ h => h))
  have HVw2 := Lib.hid (HVw1.out.keep hkd (fun h => h))
  clear hwd hkd
  clear m0
  clear v0 v1 v2 v3 v4 v5
  have had : (c.X ka + im) % 4294967296 = Ir.adr (c.X ka) im := rfl
  have hadr : 0 ≤ Ir.adr (c.X ka) im ∧ Ir.adr (c.X ka) im < 4294967296 := by unfold Ir.adr; omega
  generalize Ir.adr (c.X ka) im = ad at *
  obtain ⟨n, hn⟩ : ∃ n, b.natAbs = n := ⟨_, rfl⟩
  rw [hn] at HRES
  have hn3 : n = 1 ∨ n = 2 ∨ n = 4 := by omega
  have hbn : b = n ∨ b = -n := by omega
  have hE2 := HE.out.keep HKw2.out ⟨fun h => h, fun h => h, fun h => h⟩
  have HB2 := Lib.hid (HBW.out w2 HKw2.out)
  by_cases hrc : rightC ad n = 0
  · have HLD := Lib.hid (mload_any B mb r pb pw ph cp c m W ad b n w2 ea hE2 HMw2.out (HR.out.keep HKw2.out (fun h => h) (fun h => h)) hadr hn3 hbn HB2.out HOK.out hrc)
    have HRES2 := Lib.hid (HRES.out.trans (if_pos hrc))
    generalize Ir.loadV m c.ws ad b = lv at *
    clear hrc hE2 hn3 hbn hn
    obtain ⟨v0, v1, v2, v3, v4, v5⟩ := HVw2.out
    simp only at v0 v1 v2 v3 v4 v5
    go_wp2_with fail
    refine HLD.out.mono ?_
    rintro e w3 ⟨rfl, hk3⟩
    have HKw3 := Lib.hid (HKw2.out.trans hk3 (fun _ _ h => h))
    have HMw3 := Lib.hid (HMw2.out.keep hk3 (fun _ _ h => h))
    have HVw3 := Lib.hid (HVw2.out.keep hk3 (fun h => h))
    clear hk3 v0 v1 v2 v3 v4 v5
    obtain ⟨v0, v1, v2, v3, v4, v5⟩ := HVw3.out
    simp only at v0 v1 v2 v3 v4 v5
    obtain ⟨m1, m2⟩ := HMw3.out.reg kd hkd.2
    go_upto_region 15 with fail
    go_still_tail 7, (by kernel_rfl)
    change wpList _ _ _ _ _ w3.drew
    have hkd2 := (Keeps.refl (fun _ => False) w3).drew
    have HKw4 := Lib.hid (HKw3.out.trans hkd2 (fun _ _ h => h))
    have HMw4 := Lib.hid (HMw3.out.keep hkd2 (fun _ _ h => h))
    clear hkd2 m1 m2 v0 v1 v2 v3 v4 v5
    generalize w3.drew = w4 at *
    obtain ⟨m1, m2⟩ := HMw4.out.reg kd hkd.2
    obtain ⟨hs1, hs2⟩ := HMw4.out.set kd hkd.2 (lv)
    have HST := Lib.hid hs1
    have HKS := Lib.hid (Keeps.trans (HKw4.out.mono (T := S) (fun _ _ h => h.elim)) (hs2.mono (fun q _ hq => by have hq : q = mb := hq; subst hq; exact HSS.out)) (fun _ _ h => h))
    clear hs1 hs2
    go_wp2_with fail
    go_ret
    exact DoIs.some HRES2.out HKS.out rfl HST.out
  · have HLD := Lib.hid (mload_bad B mb r c ad b n w2 ea hE2 HMw2.out hadr hn3 hbn hrc)
    have HRES2 := Lib.hid (HRES.out.trans (if_neg hrc))
    clear hrc hE2 hn3 hbn hn
    obtain ⟨v0, v1, v2, v3, v4, v5⟩ := HVw2.out
    simp only at v0 v1 v2 v3 v4 v5
    go_wp2_with fail
    refine HLD.out.mono ?_
    rintro e w3 ⟨rfl, hk3⟩
    have HKw3 := Lib.hid (HKw2.out.trans hk3 (fun _ _ h => h))
    have HMw3 := Lib.hid (HMw2.out.keep hk3 (fun _ _ h => h))
    have HVw3 := Lib.hid (HVw2.out.keep hk3 (fun h => h))
    clear hk3 v0 v1 v2 v3 v4 v5
    obtain ⟨v0, v1, v2, v3, v4, v5⟩ := HVw3.out
    simp only at v0 v1 v2 v3 v4 v5
    obtain ⟨m1, m2⟩ := HMw3.out.reg kd hkd.2
    go_upto_region 15 with fail
    go_still_tail 7, (by kernel_rfl)
    change wpList _ _ _ _ _ w3.drew
    have hkd2 := (Keeps.refl (fun _ => False) w3).drew
    have HKw4 := Lib.hid (HKw3.out.trans hkd2 (fun _ _ h => h))
    have HMw4 := Lib.hid (HMw3.out.keep hkd2 (fun _ _ h => h))
    clear hkd2 m1 m2 v0 v1 v2 v3 v4 v5
    generalize w3.drew = w4 at *
    obtain ⟨m1, m2⟩ := HMw4.out.reg kd hkd.2
    obtain ⟨hs1, hs2⟩ := HMw4.out.set kd hkd.2 (0)
    have HST := Lib.hid hs1
    have HKS := Lib.hid (Keeps.trans (HKw4.out.mono (T := S) (fun _ _ h => h.elim)) (hs2.mono (fun q _ hq => by have hq : q = mb := hq; subst hq; exact HSS.out)) (fun _ _ h => h))
    clear hs1 hs2
    go_wp2_with fail
    go_ret
    exact DoIs.none HRES2.out HKS.out rfl
end Go.Proofs.YtgmbladcoikffaaGreatDoor
