import Derived.Test.YtknhfobcejpmeaaGreatDoorPez18
import Derived.Test.YtknhfobcejpmeaaGreatDoorPez01
import Derived.Test.YtknhfobcejpmeaaGreatDoorPez25
import Derived.Test.YtknhfobcejpmeaaGreatDoorPez06
import Derived.Deep.RegionHeld3
import Derived.Deep.QuietTactic
import Derived.BigQuiet
import Derived.Test.YtknhfobcejpmeaaGreatDoorPez16
import Derived.Test.YtknhfobcejpmeaaGreatDoorPez24
import Derived.Test.YtknhfobcejpmeaaGreatDoorPez04

/- Loose -/
/- The walks of the reference's isPlain, touches, LooseOf. Printed by gen/loose.py. -/
namespace Go.Proofs.YtknhfobcejpmeaaGreatDoor
open Go.RowKit Go.Deep
set_option linter.unusedVariables false
set_option linter.unusedSimpArgs false

theorem plainO_c (o : Ir.Op) : Ir.plainO o = ((Ir.kn o.k == 1) || ((Ir.kn o.k == 2) || Ir.isSum (Ir.kn o.k))) := by
  unfold Ir.plainO Ir.plainK
  rw [Bool.eq_iff_iff]
  simp [or_assoc]
theorem all_at {p : Ir.Op → Bool} {l : List Ir.Op} {i : Nat} (h : i < l.length) (hp : p (l.getD i Ir.nop) = false) : l.all p = false := by
  rw [List.all_eq_false]
  have e : l.getD i Ir.nop = l[i] := by simp [List.getD, h]
  rw [e] at hp
  exact ⟨l[i], List.getElem_mem h, by rw [hp]; decide⟩
theorem all_none {p : Ir.Op → Bool} {l : List Ir.Op} (h : ∀ j, j < l.length → p (l.getD j Ir.nop) = true) : l.all p = true := by
  rw [List.all_eq_true]
  intro o ho
  obtain ⟨i, hi, rfl⟩ := List.getElem_of_mem ho
  have := h i hi
  simpa [List.getD, hi] using this
theorem any_at {p : Ir.Op → Bool} {l : List Ir.Op} {i : Nat} (h : i < l.length) (hp : p (l.getD i Ir.nop) = true) : l.any p = true := by
  rw [List.any_eq_true]
  have e : l.getD i Ir.nop = l[i] := by simp [List.getD, h]
  rw [e] at hp
  exact ⟨l[i], List.getElem_mem h, hp⟩
theorem any_none {p : Ir.Op → Bool} {l : List Ir.Op} (h : ∀ j, j < l.length → p (l.getD j Ir.nop) = false) : l.any p = false := by
  rw [List.any_eq_false]
  intro o ho
  obtain ⟨i, hi, rfl⟩ := List.getElem_of_mem ho
  have := h i hi
  simpa [List.getD, hi] using this
set_option maxHeartbeats 8000000 in
set_option maxRecDepth 100000 in
theorem isPlain_any (A : Option Addr) (n cap : Nat) (l : List Ir.Op) (w : World) (V : OpsAt w A n cap l) (hc : cap ≤ 9223372036854775807) :
    Calls Tryz.prog 53 #[.slice A n cap] w fun e w' => e = .returned (.bool (Ir.plainRow l)) ∧ Keeps (fun _ => False) w w' := by
  have HV := Lib.hid V
  have HL := Lib.hid V.len
  have hnc := V.le
  obtain ⟨r, hr⟩ : ∃ r, Ir.plainRow l = r := ⟨_, rfl⟩
  have HR := Lib.hid (show l.all Ir.plainO = r from hr)
  rw [hr]
  clear V hr
  go_enter Tryz.func53, Tryz.ntmps53
  go_wp2_with fail
  go_loopw [3] (fun s3 wr => ∃ i : Nat, i ≤ n ∧ s3 = .int .i64 i ∧ (∀ j, j < i → Ir.plainO (l.getD j Ir.nop) = true) ∧ Keeps (fun _ => False) w wr) (fun s3 _ => n - (intOf s3).toNat)
  case atStart => exact ⟨0, by omega, rfl, fun j hj => absurd hj (by omega), Keeps.refl _ _⟩
  case round =>
    obtain ⟨i, hi, rfl, hZ, hK⟩ := hrel
    have HZ := Lib.hid hZ
    have HK := Lib.hid hK
    clear hZ hK
    by_cases hlt : i < n
    · obtain ⟨ob, oo, rfl, e0, e1, e2, e3, e4, e5⟩ := (HV.out.quiet HK.out).get hlt
      have hil : i < l.length := by rw [HL.out]; exact hlt
      have hi63 : (i : Int) < n := by omega
      have HPC := Lib.hid (plainO_c (l.getD i Ir.nop))
      have HBAD := Lib.hid (fun h => all_at (p := Ir.plainO) hil h)
      obtain ⟨op, hop⟩ : ∃ op, l.getD i Ir.nop = op := ⟨_, rfl⟩
      rw [hop] at e0 HPC HBAD
      have HOP := Lib.hid hop
      clear hop hil e1 e2 e3 e4 e5
      obtain ⟨ok, od, oa, ob2, oim, oat⟩ := op
      simp only at e0 HPC
      have h1 := is_set ok
      have h2 := is_copy ok
      have h1n : (ok.toList != [115, 101, 116]) = !(Ir.kn ok == 1) := by rw [← h1]; rfl
      have h2n : (ok.toList != [99, 111, 112, 121]) = !(Ir.kn ok == 2) := by rw [← h2]; rfl
      have HS := Lib.hid (fun w => isSum_any ok w)
      generalize Ir.isSum (Ir.kn ok) = ps at *
      generalize (Ir.kn ok == 1) = p1 at *
      generalize (Ir.kn ok == 2) = p2 at *
      cases p1 <;> cases p2 <;> cases ps
      all_goals
        go_wp2_with (go_at_call 94; refine (HS.out _).mono ?_; rintro e w' ⟨rfl, rfl⟩)
        first
          | (have HE := Lib.hid (show r = false by rw [← HR.out]; exact HBAD.out (by rw [HPC.out]; rfl))
             go_ret
             exact ⟨by rw [HE.out]; rfl, HK.out⟩)
          | (have HZ2 := Lib.hid (show ∀ j, j < i + 1 → Ir.plainO (l.getD j Ir.nop) = true from fun j hj => by
               by_cases e : j = i
               · subst e; rw [HOP.out, HPC.out]; rfl
               · exact HZ.out j (by omega))
             go_roundw
             case rel => exact ⟨i + 1, by omega, by go_num, HZ2.out, HK.out⟩
             case measure => simp [intOf]; omega)
    · obtain rfl : i = n := by omega
      have HE := Lib.hid (show r = true by rw [← HR.out]; exact all_none (fun j hj => HZ.out j (by rw [← HL.out]; exact hj)))
      go_wp2_with fail
      go_ret
      exact ⟨by rw [HE.out]; rfl, HK.out⟩
/-- does an op write, or read, a register? -/
def touch1 (d : Int) (q : Ir.Op) : Bool := decide (Ir.writes q = d) || (Ir.reads q).contains d
theorem touches_c (a b : List Ir.Op) : Ir.touches a b = a.any fun p => b.any fun q => touch1 (Ir.writes p) q := rfl
theorem contains_no {l : List Int} {d : Int} (h : ∀ j, j < l.length → l.getD j 0 ≠ d) : l.contains d = false := by
  cases hc : l.contains d with
  | false => rfl
  | true =>
    have hm : d ∈ l := by simpa using hc
    obtain ⟨i, hi, he⟩ := List.getElem_of_mem hm
    exact absurd (by simpa [List.getD, hi] using he) (h i hi)
theorem contains_yes {l : List Int} {d : Int} {j : Nat} (h : j < l.length) (he : l.getD j 0 = d) : l.contains d = true := by
  have e : l.getD j 0 = l[j] := by simp [List.getD, h]
  rw [e] at he
  rw [← he]
  simp
set_option maxHeartbeats 8000000 in
set_option maxRecDepth 100000 in
theorem touches_any (A B : Option Addr) (n ca m cb : Nat) (a b : List Ir.Op) (w : World) (VA : OpsAt w A n ca a) (VB : OpsAt w B m cb b) (hca : ca ≤ 9223372036854775807) (hcb : cb ≤ 9223372036854775807) :
    Calls Tryz.prog 54 #[.slice A n ca, .slice B m cb] w fun e w' => e = .returned (.bool (Ir.touches a b)) ∧ Keeps (fun _ => False) w w' := by
  have b1 := VA.le
  have b2 := VB.le
  have HLA := Lib.hid VA.len
  have HLB := Lib.hid VB.len
  have HA := Lib.hid VA
  have HB := Lib.hid VB
  obtain ⟨r, hr⟩ : ∃ r, Ir.touches a b = r := ⟨_, rfl⟩
  have HR := Lib.hid (show (a.any fun p => b.any fun q => touch1 (Ir.writes p) q) = r from hr)
  rw [hr]
  clear VA VB hr
  go_enter Tryz.func54, Tryz.ntmps54
  go_wp2_with fail
  go_loopw [5] (fun s5 wr => ∃ i : Nat, i ≤ n ∧ s5 = .int .i64 i ∧ (∀ j, j < i → (b.any fun q => touch1 (Ir.writes (a.getD j Ir.nop)) q) = false) ∧ Keeps (fun _ => False) w wr) (fun s5 _ => n - (intOf s5).toNat)
  case atStart => exact ⟨0, by omega, rfl, fun j hj => absurd hj (by omega), Keeps.refl _ _⟩
  case round =>
    obtain ⟨i, hi, rfl, hZ, hK⟩ := hrel
    have HZ := Lib.hid hZ
    have HK := Lib.hid hK
    clear hZ hK
    by_cases hlt : i < n
    · obtain ⟨ob, oo, rfl, e0, e1, e2, e3, e4, e5⟩ := (HA.out.quiet HK.out).get hlt
      have hil : i < a.length := by rw [HLA.out]; exact hlt
      have hi63 : (i : Int) < n := by omega
      have HYES := Lib.hid (fun (h : (b.any fun q => touch1 (Ir.writes (a.getD i Ir.nop)) q) = true) => (show r = true by rw [← HR.out]; exact any_at (p := fun p => b.any fun q => touch1 (Ir.writes p) q) hil h))
      have HNO := Lib.hid (fun (h : (b.any fun q => touch1 (Ir.writes (a.getD i Ir.nop)) q) = false) => (show ∀ j, j < i + 1 → (b.any fun q => touch1 (Ir.writes (a.getD j Ir.nop)) q) = false from fun j hj => by
        by_cases e : j = i
        · subst e; exact h
        · exact HZ.out j (by omega)))
      obtain ⟨op, hop⟩ : ∃ op, a.getD i Ir.nop = op := ⟨_, rfl⟩
      rw [hop] at e0 e1 e2 e3 e4 e5 HYES HNO
      clear hop hil HZ
      have HWR := Lib.hid (fun w => writeOf_any op w)
      obtain ⟨d, hd⟩ : ∃ d, Ir.writes op = d := ⟨_, rfl⟩
      rw [hd] at HWR HYES HNO
      clear hd
      obtain ⟨ok, od, oa, ob2, oim, oat⟩ := op
      simp only at e0 e1 e2 e3 e4 e5
      unfold opC at HWR
      go_wp2_with fail
      refine (HWR.out _).mono ?_
      rintro e w2 ⟨rfl, hk2⟩
      have HK2 := Lib.hid (HK.out.trans hk2 (fun _ _ h => h))
      clear hk2 e0 e1 e2 e3 e4 e5 HWR HK
      go_wp2_with fail
      go_loopw [7] (fun s7 wr => ∃ k : Nat, k ≤ m ∧ s7 = .int .i64 k ∧ (∀ j, j < k → touch1 d (b.getD j Ir.nop) = false) ∧ Keeps (fun _ => False) w wr) (fun s7 _ => m - (intOf s7).toNat)
      case atStart => exact ⟨0, by omega, rfl, fun j hj => absurd hj (by omega), HK2.out⟩
      case round =>
        obtain ⟨k, hk, rfl, hZ, hK⟩ := hrel
        have HZ := Lib.hid hZ
        have HK := Lib.hid hK
        clear hZ hK HK2
        by_cases hkt : k < m
        · have hkl : k < b.length := by rw [HLB.out]; exact hkt
          have hk63 : (k : Int) < m := by omega
          have HGK := Lib.hid (fun w' (q : Keeps (fun _ => False) w w') => (HB.out.quiet q).get hkt)
          have HY2 := Lib.hid (fun (h : touch1 d (b.getD k Ir.nop) = true) => HYES.out (any_at (p := fun q => touch1 d q) hkl h))
          obtain ⟨oq, hoq⟩ : ∃ oq, b.getD k Ir.nop = oq := ⟨_, rfl⟩
          rw [hoq] at HGK HY2
          have HOQ := Lib.hid hoq
          clear hoq hkl
          obtain ⟨qb, qo, rfl, e0, e1, e2, e3, e4, e5⟩ := HGK.out wr HK.out
          have HWQ := Lib.hid (fun w => writeOf_any oq w)
          have HRQ := Lib.hid (fun w => readsOf_any oq w)
          have HT1 : Hid (touch1 d oq = (decide (Ir.writes oq = d) || (Ir.reads oq).contains d)) := Lib.hid rfl
          obtain ⟨dq, hdq⟩ : ∃ d, Ir.writes oq = d := ⟨_, rfl⟩
          obtain ⟨rq, hrq⟩ : ∃ d, Ir.reads oq = d := ⟨_, rfl⟩
          rw [hdq] at HWQ HT1
          rw [hrq] at HRQ HT1
          clear hdq hrq
          obtain ⟨pk, pd, pa, pb2, pim, pat⟩ := oq
          simp only at e0 e1 e2 e3 e4 e5
          unfold opC at HWQ HRQ
          go_wp2_with fail
          refine (HWQ.out _).mono ?_
          rintro e w3 ⟨rfl, hk3⟩
          have HK3 := Lib.hid (HK.out.trans hk3 (fun _ _ h => h))
          clear hk3 e0 e1 e2 e3 e4 e5
          by_cases hdd : dq = d
          · have t1 : (dq == d) = true := by simp [hdd]
            have HE := Lib.hid (HY2.out (by rw [HT1.out, decide_eq_true hdd, Bool.true_or]))
            clear hdd
            go_wp2_with fail
            go_ret
            exact ⟨by rw [HE.out]; rfl, HK3.out⟩
          · have t1 : (dq == d) = false := by simp [hdd]
            have HT2 := Lib.hid (show touch1 d ⟨pk, pd, pa, pb2, pim, pat⟩ = rq.contains d by rw [HT1.out, decide_eq_false hdd, Bool.false_or])
            clear hdd
            obtain ⟨qb2, qo2, hqq, e0, e1, e2, e3, e4, e5⟩ := HGK.out w3 HK3.out
            obtain ⟨rfl, rfl⟩ : qb = qb2 ∧ qo = qo2 := by injection hqq with h; injection h with h1 h2; exact ⟨h1, h2⟩
            clear hqq
            simp only at e0 e1 e2 e3 e4 e5
            go_wp2_with fail
            refine (HRQ.out _).mono ?_
            rintro e w4 ⟨vr, rfl, hir, hk4⟩
            obtain ⟨RA, rcap, hvr, hrcap, hRD⟩ := hir.reads
            subst hvr
            have HRD := Lib.hid hRD
            have HK4 := Lib.hid (HK3.out.trans hk4 (fun _ _ h => h))
            obtain ⟨rl, hrl⟩ : ∃ n, rq.length = n := ⟨_, rfl⟩
            rw [hrl] at HRD ⊢
            have HRL := Lib.hid hrl
            have hrlc : rl ≤ rcap := HRD.out.1
            have hrcap2 : rcap ≤ 9223372036854775807 := by unfold maxLen at hrcap; omega
            clear hrcap
            clear hk4 e0 e1 e2 e3 e4 e5 hRD hrl hir
            go_wp2_with fail
            go_loopw [9] (fun s9 wr => ∃ j : Nat, j ≤ rl ∧ s9 = .int .i64 j ∧ (∀ z, z < j → rq.getD z 0 ≠ d) ∧ Keeps (fun _ => False) w4 wr) (fun s9 _ => rl - (intOf s9).toNat)
            case atStart => exact ⟨0, by omega, rfl, fun j hj => absurd hj (by omega), Keeps.refl _ _⟩
            case round =>
              obtain ⟨j, hj, rfl, hZ, hK⟩ := hrel
              have HZ3 := Lib.hid hZ
              have HK5 := Lib.hid hK
              clear hZ hK
              by_cases hjt : j < rl
              · have hj63 : (j : Int) < rl := by omega
                obtain ⟨rb, ro, rfl, hrc2⟩ : ∃ b o, RA = some ⟨b, o, none⟩ ∧ wr.cell? ⟨b, o + j, none⟩ = some (.int .i64 (rq.getD j 0)) := by
                  obtain ⟨h1, h2 | ⟨b, o, h3, h4, h5⟩⟩ := HRD.out
                  · omega
                  · exact ⟨b, o, h3, HK5.out.cell' (h5 j hjt) (fun h => h)⟩
                have HCY := Lib.hid (fun h => contains_yes (l := rq) (d := d) (j := j) (by rw [HRL.out]; exact hjt) h)
                obtain ⟨rv, hrv⟩ : ∃ v, rq.getD j 0 = v := ⟨_, rfl⟩
                rw [hrv] at hrc2 HCY
                have HRV := Lib.hid hrv
                clear hrv
                by_cases hrd : rv = d
                · have t2 : (rv == d) = true := by simp [hrd]
                  have HE := Lib.hid (HY2.out (by rw [HT2.out]; exact HCY.out hrd))
                  clear hrd
                  go_wp2_with fail
                  go_ret
                  exact ⟨by rw [HE.out]; rfl, HK4.out.trans HK5.out (fun _ _ h => h)⟩
                · have t2 : (rv == d) = false := by simp [hrd]
                  have HZ4 := Lib.hid (show ∀ z, z < j + 1 → rq.getD z 0 ≠ d from fun z hz => by
                    by_cases e : z = j
                    · subst e; rw [HRV.out]; exact hrd
                    · exact HZ3.out z (by omega))
                  clear hrd
                  go_wp2_with fail
                  go_roundw
                  case rel => exact ⟨j + 1, by omega, by go_num, HZ4.out, HK5.out⟩
                  case measure => simp [intOf]; omega
              · have t10 : decide (j < rl) = false := decide_eq_false hjt
                have HZ5 := Lib.hid (show ∀ z, z < k + 1 → touch1 d (b.getD z Ir.nop) = false from fun z hz => by
                  by_cases e : z = k
                  · subst e
                    rw [HOQ.out, HT2.out]
                    exact contains_no (fun z hz => HZ3.out z (by rw [HRL.out] at hz; omega))
                  · exact HZ.out z (by omega))
                have HK6 := Lib.hid (HK4.out.trans HK5.out (fun _ _ h => h))
                clear hjt
                go_wp2_with fail
                go_roundw
                case rel => exact ⟨k + 1, by omega, by go_num, HZ5.out, HK6.out⟩
                case measure => simp [intOf]; omega
        · have t10 : decide (k < m) = false := decide_eq_false hkt
          have HZ5 := Lib.hid (HNO.out (any_none (fun z hz => HZ.out z (by rw [HLB.out] at hz; omega))))
          clear hkt
          go_wp2_with fail
          go_roundw
          case rel => exact ⟨i + 1, by omega, by go_num, HZ5.out, HK.out⟩
          case measure => simp [intOf]; omega
    · have HE := Lib.hid (show r = false by rw [← HR.out]; exact any_none (fun z hz => HZ.out z (by rw [HLA.out] at hz; omega)))
      have t10 : decide (i < n) = false := decide_eq_false hlt
      go_wp2_with fail
      go_ret
      exact ⟨by rw [HE.out]; rfl, HK.out⟩
set_option maxHeartbeats 8000000 in
set_option maxRecDepth 100000 in
theorem looseOf_zero (A : Option Addr) (n cap : Nat) (rows : List (List Ir.Op)) (w : World) (V : RowsAt w A n cap rows) (hc : cap ≤ 9223372036854775807) (hn : n ≤ 1000) (hb : ∀ i, i < rows.length → (rows.getD i []).length ≤ 1000) (hz : ∀ i, i + 1 < rows.length → Ir.looseAt (rows.getD i []) (rows.getD (i + 1) []) = false) :
    Calls Tryz.prog 16 #[.slice A n cap] w fun e w' => e = .returned (.int .i64 0) ∧ Keeps (fun _ => False) w w' := by
  have HV := Lib.hid V
  have HL := Lib.hid V.len
  have HB := Lib.hid hb
  have HZ := Lib.hid hz
  have hnc := V.le
  clear V hb hz
  go_enter Tryz.func16, Tryz.ntmps16
  go_wp2_with fail
  go_loopw [3, 4] (fun s3 s4 wr => ∃ i : Nat, i ≤ n ∧ s3 = .int .i64 0 ∧ s4 = .int .i64 i ∧ Keeps (fun _ => False) w wr) (fun _ s4 _ => n - (intOf s4).toNat)
  case atStart => exact ⟨0, by omega, rfl, rfl, Keeps.refl _ _⟩
  case round =>
    obtain ⟨i, hi, rfl, rfl, hK⟩ := hrel
    have HK := Lib.hid hK
    clear hK
    by_cases hlt : i + 1 < n
    · have hi63 : (i : Int) + 1 < n := by omega
      have hi64 : (i : Int) < n := by omega
      have hi65 : (0 : Int) ≤ (i : Int) + 1 := by omega
      have hil : i < n := by omega
      obtain ⟨ob, oo, Aa, ca, rfl, e0, e1, e2⟩ := (HV.out.quiet HK.out).get hil
      obtain ⟨ob2, oo2, Ab, cb, hab, f0, f1, f2⟩ := (HV.out.quiet HK.out).get hlt
      obtain ⟨rfl, rfl⟩ : ob = ob2 ∧ oo = oo2 := by injection hab with h; injection h with h1 h2; exact ⟨h1, h2⟩
      have HLA := Lib.hid (HB.out i (by rw [HL.out]; exact hil))
      have HLB := Lib.hid (HB.out (i + 1) (by rw [HL.out]; exact hlt))
      have HLO := Lib.hid (HZ.out i (by rw [HL.out]; exact hlt))
      obtain ⟨a, ha⟩ : ∃ a, rows.getD i [] = a := ⟨_, rfl⟩
      obtain ⟨b, hb⟩ : ∃ a, rows.getD (i + 1) [] = a := ⟨_, rfl⟩
      rw [ha] at e0 e1 HLA HLO
      rw [hb] at f0 f1 HLB HLO
      clear ha hb hab
      have HPA := Lib.hid (fun w V => isPlain_any Aa a.length ca a w V e2)
      have HPB := Lib.hid (fun w V => isPlain_any Ab b.length cb b w V f2)
      have HT1 := Lib.hid (fun w V1 V2 => touches_any Aa Ab a.length ca b.length cb a b w V1 V2 e2 f2)
      have HT2 := Lib.hid (fun w V2 V1 => touches_any Ab Aa b.length cb a.length ca b a w V1 V2 f2 e2)
      have HLC : Hid (Ir.looseAt a b = (Ir.plainRow a && Ir.plainRow b && decide (a.length + b.length ≤ 3) && !Ir.touches a b && !Ir.touches b a)) := Lib.hid rfl
      have HLD := Lib.hid (HLC.out.symm.trans HLO.out)
      have HE0 := Lib.hid e0
      have HF0 := Lib.hid f0
      have HE1 := Lib.hid e1
      have HF1 := Lib.hid f1
      obtain ⟨pa, hpa⟩ : ∃ p, Ir.plainRow a = p := ⟨_, rfl⟩
      obtain ⟨pb, hpb⟩ : ∃ p, Ir.plainRow b = p := ⟨_, rfl⟩
      obtain ⟨ta, hta⟩ : ∃ p, Ir.touches a b = p := ⟨_, rfl⟩
      obtain ⟨tb, htb⟩ : ∃ p, Ir.touches b a = p := ⟨_, rfl⟩
      rw [hpa] at HPA HLD
      rw [hpb] at HPB HLD
      rw [hta] at HT1 HLD
      rw [htb] at HT2 HLD
      obtain ⟨la, hla⟩ : ∃ n, a.length = n := ⟨_, rfl⟩
      obtain ⟨lb, hlb⟩ : ∃ n, b.length = n := ⟨_, rfl⟩
      rw [hla] at HE0 HE1 HLA HPA HT1 HT2 HLD
      rw [hlb] at HF0 HF1 HLB HPB HT1 HT2 HLD
      clear hpa hpb hta htb hla hlb e0 e1 e2 f0 f1 f2 HLO HLC HZ
      have ea := HE0.out
      have eb := HF0.out
      generalize wr = w4 at *
      go_wp2_with fail
      refine (HPA.out _ HE1.out).mono ?_
      rintro e w5 ⟨rfl, hk5⟩
      have HK5 := Lib.hid (HK.out.trans hk5 (fun _ _ h => h))
      have HKc := Lib.hid hk5
      clear ea eb hk5
      have eb := HKc.out.cell' HF0.out (fun h => h)
      go_wp2_with fail
      refine (HPB.out _ (HF1.out.quiet HKc.out)).mono ?_
      rintro e w6 ⟨rfl, hk6⟩
      have HK6 := Lib.hid (HK5.out.trans hk6 (fun _ _ h => h))
      have HKd := Lib.hid (HKc.out.trans hk6 (fun _ _ h => h))
      clear eb hk6
      have ea := HKd.out.cell' HE0.out (fun h => h)
      have eb := HKd.out.cell' HF0.out (fun h => h)
      have hla1 := HLA.out
      have hlb1 := HLB.out
      go_upto_region 7 with fail
      go_cut [47] from 27 to 47 (fun s47 wx => s47 = .bool (!pa || (!pb || decide (3 < la + lb))) ∧ Keeps (fun _ => False) w6 wx)
      case first =>
        cases pa
        · go_quiet (fail)
          go_wp2_with fail
          go_meet
          exact ⟨rfl, (Keeps.refl _ _).drewN _⟩
        · cases pb
          · go_quiet (fail)
            go_wp2_with fail
            go_meet
            exact ⟨rfl, (Keeps.refl _ _).drewN _⟩
          · have hw1 : IntKind.i64.wrap ((i : Int) + 1) = (i : Int) + 1 := by rw [IntKind.wrap_i64]; omega
            have hw2 : IntKind.i64.wrap ((la : Int) + (lb : Int)) = (la : Int) + (lb : Int) := by rw [IntKind.wrap_i64]; omega
            have hw3 : ((i : Int) + 1).toNat = i + 1 := by omega
            go_quiet (fail)
            go_wp2_with fail
            go_meet
            exact ⟨by first | rfl | (congr 1; done) | (congr 1; rw [Bool.eq_iff_iff]; simp; done) | (congr 1; rw [Bool.eq_iff_iff]; simp; omega), (Keeps.refl _ _).drewN _⟩
      case rest =>
        obtain ⟨rfl, hkc⟩ := hcut
        have HKE := Lib.hid (HKd.out.trans hkc (fun _ _ h => h))
        have HKF := Lib.hid (HK6.out.trans hkc (fun _ _ h => h))
        clear hkc ea eb
        obtain ⟨bb, hbb⟩ : ∃ b, (!pa || (!pb || decide (3 < la + lb))) = b := ⟨_, rfl⟩
        rw [hbb]
        have HBB := Lib.hid hbb
        clear hbb
        cases bb
        · have HXY := Lib.hid (show (!ta && !tb) = false by
            have h1 := HBB.out
            have h2 := HLD.out
            have e3 : decide (la + lb ≤ 3) = !decide (3 < la + lb) := by
              rw [Bool.eq_iff_iff]; simp
            rw [e3] at h2
            cases pa <;> cases pb <;> simp_all)
          have ea := HKE.out.cell' HE0.out (fun h => h)
          have eb := HKE.out.cell' HF0.out (fun h => h)
          have HEA := Lib.hid (HE1.out.quiet HKE.out)
          have HEB := Lib.hid (HF1.out.quiet HKE.out)
          have hw1 : IntKind.i64.wrap ((i : Int) + 1) = (i : Int) + 1 := by rw [IntKind.wrap_i64]; omega
          have hw3 : ((i : Int) + 1).toNat = i + 1 := by omega
          clear HKc HKd HK6 HK5
          generalize wc = w6 at *
          go_upto_region 8 with fail
          refine wp_region_held_drew (S := fun w' => Keeps (fun _ => False) w6 w') (by kernel_rfl) (Keeps.refl _ w6).drew (fun hH0 => ?_)
          refine wpAnyH_take (i := 0) (v := ?_) rfl (by kernel_rfl) (by kernel_rfl) (by kernel_rfl) (fun _ _ _ h => h) (Or.inl ⟨by go_simp, ?_⟩) hH0 ?_
          rotate_left
          · intro w' hSw
            go_simp
            try with_reducible rfl
          simp only [Act.put, List.setIfInBounds_toArray, List.set_cons_zero, List.set_cons_succ]
          refine wpAnyH_take (i := 1) (v := ?_) rfl (by kernel_rfl) (by kernel_rfl) (by kernel_rfl) (fun _ _ _ h => h) (Or.inl ⟨by go_simp, ?_⟩) hH0 ?_
          rotate_left
          · intro w' hSw
            go_simp
            try with_reducible rfl
          simp only [Act.put, List.setIfInBounds_toArray, List.set_cons_zero, List.set_cons_succ]
          refine wpAnyH_take (i := 2) (v := ?_) rfl (by kernel_rfl) (by kernel_rfl) (by kernel_rfl) (fun _ _ _ h => h) (Or.inl ⟨by go_simp, ?_⟩) hH0 ?_
          rotate_left
          · intro w' hSw
            go_simp
            try with_reducible rfl
          simp only [Act.put, List.setIfInBounds_toArray, List.set_cons_zero, List.set_cons_succ]
          refine wpAnyH_take (i := 3) (v := ?_) rfl (by kernel_rfl) (by kernel_rfl) (by kernel_rfl) (fun _ _ _ h => h) (Or.inl ⟨by go_simp, ?_⟩) hH0 ?_
          rotate_left
          · intro w' hSw
            have g0 := Keeps.cell' hSw ea (fun f => f)
            go_simp
            try with_reducible rfl
          simp only [Act.put, List.setIfInBounds_toArray, List.set_cons_zero, List.set_cons_succ]
          refine wpAnyH_take (i := 4) (v := ?_) rfl (by kernel_rfl) (by kernel_rfl) (by kernel_rfl) (fun _ _ _ h => h) (Or.inl ⟨by go_simp, ?_⟩) hH0 ?_
          rotate_left
          · intro w' hSw
            go_simp
            try with_reducible rfl
          simp only [Act.put, List.setIfInBounds_toArray, List.set_cons_zero, List.set_cons_succ]
          refine wpAnyH_take (i := 5) (v := ?_) rfl (by kernel_rfl) (by kernel_rfl) (by kernel_rfl) (fun _ _ _ h => h) (Or.inl ⟨by go_simp, ?_⟩) hH0 ?_
          rotate_left
          · intro w' hSw
            go_simp
            try with_reducible rfl
          simp only [Act.put, List.setIfInBounds_toArray, List.set_cons_zero, List.set_cons_succ]
          refine wpAnyH_take (i := 6) (v := ?_) rfl (by kernel_rfl) (by kernel_rfl) (by kernel_rfl) (fun _ _ _ h => h) (Or.inl ⟨by go_simp, ?_⟩) hH0 ?_
          rotate_left
          · intro w' hSw
            go_simp
            try with_reducible rfl
          simp only [Act.put, List.setIfInBounds_toArray, List.set_cons_zero, List.set_cons_succ]
          refine wpAnyH_take (i := 7) (v := ?_) rfl (by kernel_rfl) (by kernel_rfl) (by kernel_rfl) (fun _ _ _ h => h) (Or.inl ⟨by go_simp, ?_⟩) hH0 ?_
          rotate_left
          · intro w' hSw
            go_simp
            try with_reducible rfl
          simp only [Act.put, List.setIfInBounds_toArray, List.set_cons_zero, List.set_cons_succ]
          refine wpAnyH_take (i := 8) (v := ?_) rfl (by kernel_rfl) (by kernel_rfl) (by kernel_rfl) (fun _ _ _ h => h) (Or.inl ⟨by go_simp, ?_⟩) hH0 ?_
          rotate_left
          · intro w' hSw
            have g0 := Keeps.cell' hSw eb (fun f => f)
            go_simp
            try with_reducible rfl
          simp only [Act.put, List.setIfInBounds_toArray, List.set_cons_zero, List.set_cons_succ]
          refine wpAnyH_ready (rs := [9]) (by kernel_rfl) (by simp) ?_
          refine AllReadyH.cons rfl (fun K hK => ?_) AllReadyH.nil
          go_simp
          refine (HT1.out _ (HEA.out.quiet hH0) (HEB.out.quiet hH0)).mono ?_
          rintro e wa ⟨rfl, hka⟩
          go_wp2_with fail
          have hH1 := Keeps.trans hH0 hka (fun _ _ h => h)
          refine hK.out _ _ hH1 (fun _ => ?_)
          clear hK K
          try simp only [Act.put, List.setIfInBounds_toArray, List.set_cons_zero, List.set_cons_succ]
          refine wpAnyH_ready (rs := [10]) (by kernel_rfl) (by simp) ?_
          refine AllReadyH.cons rfl (fun K hK => ?_) AllReadyH.nil
          go_simp
          refine hK.out _ _ hH1 (fun _ => ?_)
          clear hK K
          try simp only [Act.put, List.setIfInBounds_toArray, List.set_cons_zero, List.set_cons_succ]
          refine wpAnyH_done (by kernel_rfl) ?_ _
          have HKG := Lib.hid (HKE.out.trans hH1 (fun _ _ h => h))
          have HKH := Lib.hid (HKF.out.trans hH1 (fun _ _ h => h))
          clear ea eb hH0 hH1 hka
          have ea := HKG.out.cell' HE0.out (fun h => h)
          have eb := HKG.out.cell' HF0.out (fun h => h)
          have HEA2 := Lib.hid (HE1.out.quiet HKG.out)
          have HEB2 := Lib.hid (HF1.out.quiet HKG.out)
          generalize wa = w7 at *
          go_upto_region 9 with fail
          refine wp_region_held_drew (S := fun w' => Keeps (fun _ => False) w7 w') (by kernel_rfl) (Keeps.refl _ w7).drew (fun hH0 => ?_)
          refine wpAnyH_take (i := 0) (v := ?_) rfl (by kernel_rfl) (by kernel_rfl) (by kernel_rfl) (fun _ _ _ h => h) (Or.inl ⟨by go_simp, ?_⟩) hH0 ?_
          rotate_left
          · intro w' hSw
            go_simp
            try with_reducible rfl
          simp only [Act.put, List.setIfInBounds_toArray, List.set_cons_zero, List.set_cons_succ]
          refine wpAnyH_take (i := 1) (v := ?_) rfl (by kernel_rfl) (by kernel_rfl) (by kernel_rfl) (fun _ _ _ h => h) (Or.inl ⟨by go_simp, ?_⟩) hH0 ?_
          rotate_left
          · intro w' hSw
            go_simp
            try with_reducible rfl
          simp only [Act.put, List.setIfInBounds_toArray, List.set_cons_zero, List.set_cons_succ]
          refine wpAnyH_take (i := 2) (v := ?_) rfl (by kernel_rfl) (by kernel_rfl) (by kernel_rfl) (fun _ _ _ h => h) (Or.inl ⟨by go_simp, ?_⟩) hH0 ?_
          rotate_left
          · intro w' hSw
            go_simp
            try with_reducible rfl
          simp only [Act.put, List.setIfInBounds_toArray, List.set_cons_zero, List.set_cons_succ]
          refine wpAnyH_take (i := 3) (v := ?_) rfl (by kernel_rfl) (by kernel_rfl) (by kernel_rfl) (fun _ _ _ h => h) (Or.inl ⟨by go_simp, ?_⟩) hH0 ?_
          rotate_left
          · intro w' hSw
            go_simp
            try with_reducible rfl
          simp only [Act.put, List.setIfInBounds_toArray, List.set_cons_zero, List.set_cons_succ]
          refine wpAnyH_take (i := 4) (v := ?_) rfl (by kernel_rfl) (by kernel_rfl) (by kernel_rfl) (fun _ _ _ h => h) (Or.inl ⟨by go_simp, ?_⟩) hH0 ?_
          rotate_left
          · intro w' hSw
            have g0 := Keeps.cell' hSw eb (fun f => f)
            go_simp
            try with_reducible rfl
          simp only [Act.put, List.setIfInBounds_toArray, List.set_cons_zero, List.set_cons_succ]
          refine wpAnyH_take (i := 5) (v := ?_) rfl (by kernel_rfl) (by kernel_rfl) (by kernel_rfl) (fun _ _ _ h => h) (Or.inl ⟨by go_simp, ?_⟩) hH0 ?_
          rotate_left
          · intro w' hSw
            go_simp
            try with_reducible rfl
          simp only [Act.put, List.setIfInBounds_toArray, List.set_cons_zero, List.set_cons_succ]
          refine wpAnyH_take (i := 6) (v := ?_) rfl (by kernel_rfl) (by kernel_rfl) (by kernel_rfl) (fun _ _ _ h => h) (Or.inl ⟨by go_simp, ?_⟩) hH0 ?_
          rotate_left
          · intro w' hSw
            go_simp
            try with_reducible rfl
          simp only [Act.put, List.setIfInBounds_toArray, List.set_cons_zero, List.set_cons_succ]
          refine wpAnyH_take (i := 7) (v := ?_) rfl (by kernel_rfl) (by kernel_rfl) (by kernel_rfl) (fun _ _ _ h => h) (Or.inl ⟨by go_simp, ?_⟩) hH0 ?_
          rotate_left
          · intro w' hSw
            go_simp
            try with_reducible rfl
          simp only [Act.put, List.setIfInBounds_toArray, List.set_cons_zero, List.set_cons_succ]
          refine wpAnyH_take (i := 8) (v := ?_) rfl (by kernel_rfl) (by kernel_rfl) (by kernel_rfl) (fun _ _ _ h => h) (Or.inl ⟨by go_simp, ?_⟩) hH0 ?_
          rotate_left
          · intro w' hSw
            have g0 := Keeps.cell' hSw ea (fun f => f)
            go_simp
            try with_reducible rfl
          simp only [Act.put, List.setIfInBounds_toArray, List.set_cons_zero, List.set_cons_succ]
          refine wpAnyH_ready (rs := [9]) (by kernel_rfl) (by simp) ?_
          refine AllReadyH.cons rfl (fun K hK => ?_) AllReadyH.nil
          go_simp
          refine (HT2.out _ (HEA2.out.quiet hH0) (HEB2.out.quiet hH0)).mono ?_
          rintro e wb ⟨rfl, hkb⟩
          go_wp2_with fail
          have hH2 := Keeps.trans hH0 hkb (fun _ _ h => h)
          refine hK.out _ _ hH2 (fun _ => ?_)
          clear hK K
          try simp only [Act.put, List.setIfInBounds_toArray, List.set_cons_zero, List.set_cons_succ]
          refine wpAnyH_ready (rs := [10]) (by kernel_rfl) (by simp) ?_
          refine AllReadyH.cons rfl (fun K hK => ?_) AllReadyH.nil
          go_simp
          refine hK.out _ _ hH2 (fun _ => ?_)
          clear hK K
          try simp only [Act.put, List.setIfInBounds_toArray, List.set_cons_zero, List.set_cons_succ]
          refine wpAnyH_done (by kernel_rfl) ?_ _
          have HKI := Lib.hid (HKH.out.trans hH2 (fun _ _ h => h))
          clear ea eb hH0 hH2 hkb hw1 hw3
          cases ta <;> cases tb
          · exact absurd HXY.out (by decide)
          all_goals
            go_wp2_with fail
            go_roundw
            case rel => exact ⟨i + 1, by omega, rfl, by go_num, HKI.out⟩
            case measure => simp [intOf]; omega
        · go_wp2_with fail
          go_roundw
          case rel => exact ⟨i + 1, by omega, rfl, by go_num, HKF.out⟩
          case measure => simp [intOf]; omega
    · have t1 : decide ((i : Int) + 1 < (n : Int)) = false := decide_eq_false (by omega)
      have t2 : decide (i + 1 < n) = false := decide_eq_false hlt
      have hi66 : (i : Int) + 1 ≤ 1001 := by omega
      go_wp2_with fail
      go_ret
      exact ⟨rfl, HK.out⟩
end Go.Proofs.YtknhfobcejpmeaaGreatDoor

/- PlanEndsE -/
/- The walk of the law PlanEnds. Printed by gen/planends.py. -/
namespace Go.Proofs.YtknhfobcejpmeaaGreatDoor
open Go.RowKit Go.Deep
set_option linter.unusedVariables false
set_option linter.unusedSimpArgs false

set_option maxHeartbeats 16000000 in
set_option maxRecDepth 100000 in
theorem planEnds_e (pc many : Int) (A : Option Addr) (n cap : Nat) (l : List Ir.Op) (s : Cp.St) (PA : Option Addr) (pn pcap : Nat) (page : Int) (ws : Nat → Int) (w : World) (ea : Nat → Addr) (E : ErrsAll w ea) (V : OpsAt w A n cap l) (hc : cap ≤ 9223372036854775807) (hok : ∀ o ∈ l, OpOk o)
    (hR : Reads w PA pn pcap (fun i => .int .u32 (ws i))) (hpc : pcap ≤ 9223372036854775807) (hr : ∀ i, i < pn → 0 ≤ ws i ∧ ws i < 4294967296) (hrng : 0 ≤ s.count → s.count < 4611686018427387904 → Cp.Rng s) (hp : 0 ≤ pc ∧ pc < 4294967296) (hfz : (Ir.fault many l).1 ≠ 0) :
    Calls Tryz.prog 3 #[.int .u32 pc, .int .i64 many, .slice A n cap, .agg (placeL s PA pn pcap page).toArray] w fun e w' => e = .returned (.bool true) ∧ Keeps (fun _ => False) w w' := by
  have HE := Lib.hid E
  have HV := Lib.hid V
  have HL := Lib.hid V.len
  have HOK := Lib.hid hok
  have HRD := Lib.hid hR
  have HRR := Lib.hid hr
  have HRNG := Lib.hid hrng
  have HP := Lib.hid hp
  have hnc := V.le
  have HN := Lib.hid (PlaceAt.new w s PA pn pcap page)
  have HK := Lib.hid ((Keeps.refl (fun _ => False) w).alloc (.cells (placeL s PA pn pcap page).toArray 29))
  have HFS := Lib.hid (fault_small many l)
  have HCF := Lib.hid (fun w V => codeFault_any many A n cap l w V hc)
  have HMK := Lib.hid (fun w A3 cap3 V hc E => planMake_any pc many A3 n cap3 l w ea E V hc hok)
  have HHF := Lib.hid hfz
  obtain ⟨fa, hfa⟩ : ∃ f, Ir.fault many l = f := ⟨_, rfl⟩
  rw [hfa] at HFS HCF
  have HFA := Lib.hid hfa
  obtain ⟨fc, fat⟩ := fa
  have hfc0 : fc ≠ 0 := by have := hfz; rw [hfa] at this; exact this
  have HFC0 := Lib.hid hfc0
  clear hfc0 hfz
  clear E V hok hR hr hrng hp hfa
  go_enter Tryz.func3, Tryz.ntmps3
  go_upto_region 1 with fail
  have HP1 := Lib.hid HN.out
  have HK1 := Lib.hid HK.out
  clear HN HK
  generalize w.alloc _ = w1 at *
  obtain ⟨x, hx⟩ : ∃ x, w.heap.size = x := ⟨_, rfl⟩
  rw [hx] at HP1 ⊢
  have HX := Lib.hid hx
  clear hx
  go_wp2_with fail
  refine (planned_any w1 ea (HE.out.quiet HK1.out).toC).mono ?_
  rintro e w2 ⟨rfl, hk2⟩
  have HP2 := Lib.hid (HP1.out.keep hk2 (fun h => h))
  have HK2 := Lib.hid (HK1.out.trans hk2 (fun _ _ h => h))
  clear hk2
  go_wp2_with fail
  refine (longOps40_any A n cap l w2 (HV.out.quiet HK2.out) hc).mono ?_
  rintro e w3 ⟨r, rfl, hr, hk3⟩
  have HP3 := Lib.hid (HP2.out.keep hk3 (fun h => h))
  have HK3 := Lib.hid (HK2.out.trans hk3 (fun _ _ h => h))
  clear hk3
  rcases hr with rfl | ⟨rfl, hn⟩
  · go_wp2_with fail
    go_ret
    exact ⟨rfl, HK3.out⟩
  go_wp2_with (refine wpList_load_place _ rfl x s PA pn pcap page HP3.out rfl (by first | rfl | decide) ?_)
  refine (longPlace_any s PA pn pcap page w3).mono ?_
  rintro e w4 ⟨b, rfl, hb, hk4⟩
  have HP4 := Lib.hid (HP3.out.keep hk4 (fun h => h))
  have HK4 := Lib.hid (HK3.out.trans hk4 (fun _ _ h => h))
  clear hk4
  cases b
  case true =>
    go_wp2_with fail
    go_ret
    exact ⟨rfl, HK4.out⟩
  obtain ⟨hpn, hc0, hc1⟩ := hb rfl
  clear hb
  have HSPR := Lib.hid (placedA_rng (HRNG.out hc0 (by omega)) pc HP.out false)
  have HSPC := Lib.hid (show (Ir.placedA s pc false).count ≤ 1099511627776 ∧ (Ir.placedA s pc false).R 0 = 0 from ⟨hc1, rfl⟩)
  have HOW := Lib.hid (ownOps_any A n cap l w4 (HV.out.quiet HK4.out) (by omega))
  go_wp2_with fail
  refine HOW.out.mono ?_
  rintro e w5 ⟨v, rfl, ⟨A3, cap3, rfl, ho3⟩, hk5⟩
  rw [HL.out] at ho3 ⊢
  have HO5 := Lib.hid (OpsAt.of_owns ho3 HL.out)
  have HCAP := owns_cap ho3
  have HK5 := Lib.hid (HK4.out.trans hk5 (fun _ _ h => h))
  have HP5 := Lib.hid (HP4.out.keep hk5 (fun h => h))
  have HOP := Lib.hid (HMK.out w5 A3 cap3 HO5.out HCAP (HE.out.quiet HK5.out).toC)
  clear hk5 ho3 HOW HP1 HP2 HP3 HP4
  go_wp2_with fail
  refine HOP.out.mono ?_
  rintro e w6 ⟨⟨cv, ev, rfl, hv6⟩, hk6⟩
  obtain ⟨hfv, hcv⟩ : FaultIs w6 ea (Ir.fault many l) ev ∧ cv = .agg (codeC 0 0 none 0 0) := by
    refine ⟨hv6.1, ?_⟩
    rcases hv6.2 with h | h
    · exact h.2
    · exact absurd h.1 HHF.out
  subst hcv
  unfold codeC
  have hka := (Keeps.refl (fun _ => False) w6).alloc (.cells #[.int .u32 0, .int .i64 0, .slice none 0 0] 35)
  have hkb := hk6.trans hka (fun _ _ h => h)
  have HB7 := Lib.hid (PlanBox.new w6 0 0 none 0 0)
  have HFV7 := Lib.hid (hfv.keep hka)
  have HK7 := Lib.hid (HK5.out.trans hkb (fun _ _ h => h))
  clear hv6 hk6 hka hkb hfv
  go_upto_region 5 with fail
  generalize w6.alloc _ = w7 at *
  generalize w6.heap.size = cb at *
  go_wp2_with fail
  refine (HCF.out w7 (HV.out.quiet HK7.out)).mono ?_
  rintro e w8 ⟨rfl, hk8⟩
  unfold faultV
  dsimp only
  have hka := (Keeps.refl (fun _ => False) w8).alloc (.cells #[.int .i64 fc, .int .i64 fat] 44)
  have hkb := hk8.trans hka (fun _ _ h => h)
  have HF9 := Lib.hid (FaultBox.new w8 fc fat)
  have HK9 := Lib.hid (HK7.out.trans hkb (fun _ _ h => h))
  have HB9 := Lib.hid (HB7.out.keep hkb (fun h => h))
  have HFV9 := Lib.hid (HFV7.out.keep hkb)
  clear hk8 hka hkb
  go_upto_region 6 with fail
  generalize w8.alloc _ = w9 at *
  generalize w8.heap.size = fb at *
  obtain ⟨y0, y1, g0, g1⟩ := HF9.out.cells
  have HFT := Lib.hid (faulted_any (fc, fat) HFS.out ev w9 ea (HE.out.quiet HK9.out) (by have := HFV9.out; rwa [HFA.out] at this))
  unfold faultV at HFT
  dsimp only at HFT
  have hgt : decide (0 < fc) = true := decide_eq_true (by have := HFC0.out; omega)
  go_wp2_with fail
  refine HFT.out.mono ?_
  rintro e w12 ⟨rfl, hk12⟩
  obtain ⟨d0, d1, d2, _⟩ := (HB9.out.keep hk12 (fun h => h)).cells
  have HK12 := Lib.hid (HK9.out.trans hk12 (fun _ _ h => h))
  clear hk12 y0 y1
  go_wp2_with fail
  go_ret
  exact ⟨by first | rfl | go_simp, HK12.out⟩
end Go.Proofs.YtknhfobcejpmeaaGreatDoor
