import Derived.Test.YtknhfobcejpmeaaGreatDoorPez17
import Derived.Deep.QuietTactic
import Derived.BigQuiet
import Derived.Deep.RegionHeld3
import Derived.Test.YtknhfobcejpmeaaGreatDoorPez09
import Derived.Laws.AppendOwn
import Derived.OwnWalk
import Derived.Lib.Hide

/- Flat -/
/- The walks of the law's flat, fewOps. -/
namespace Go.Proofs.YtknhfobcejpmeaaGreatDoor
open Go.RowKit Go.Deep
set_option linter.unusedVariables false
set_option linter.unusedSimpArgs false

set_option maxHeartbeats 4000000 in
set_option maxRecDepth 100000 in
theorem flat_any (A : Option Addr) (n cap : Nat) (rows : List (List Ir.Op)) (w : World) (V : RowsAt w A n cap rows) (hc : cap ≤ 9223372036854775807) (hn : n ≤ 1000) (hb : ∀ i, i < rows.length → (rows.getD i []).length ≤ 1000) :
    Calls Tryz.prog 14 #[.slice A n cap] w fun e w' => ∃ v, e = .returned v ∧ OpsOwn w' w.heap.size rows.flatten v ∧ Keeps (fun _ => False) w w' := by
  have HV := Lib.hid V
  have HL := Lib.hid V.len
  have hnc := V.le
  have HT := Lib.hid (fun i (hi : i ≤ n) => flatten_take_bound hb i (by rw [V.len]; exact hi))
  obtain ⟨B, hB⟩ : ∃ B, w.heap.size = B := ⟨_, rfl⟩
  rw [hB]
  have HBE := Lib.hid hB
  have HK0 := Lib.hid (Keeps.refl (fun _ => False) w)
  clear V hb hB
  go_enter Tryz.func14, Tryz.ntmps14
  go_wp2_with fail
  go_loopw [3, 4] (fun s3 s4 wr => ∃ i : Nat, i ≤ n ∧ s4 = .int .i64 i ∧ OpsOwn wr B (rows.take i).flatten s3 ∧ Keeps (fun _ => False) w wr) (fun _ s4 _ => n - (intOf s4).toNat)
  case atStart => exact ⟨0, by omega, rfl, ⟨none, 0, rfl, World.ownsRow_nil _ _ _ _⟩, HK0.out⟩
  case round =>
    obtain ⟨i, hi, rfl, hO, hK⟩ := hrel
    have HO := Lib.hid hO
    have HK := Lib.hid hK
    clear hO hK
    by_cases hlt : i < n
    · obtain ⟨ob, oo, Ai, ci, rfl, e0, e1, e2⟩ := (HV.out.quiet HK.out).get hlt
      have hil : i < rows.length := by rw [HL.out]; exact hlt
      have HFS := Lib.hid (flatten_step rows i hil)
      have HTB := Lib.hid (HT.out (i + 1) hlt)
      obtain ⟨l, hl⟩ : ∃ l, rows.getD i [] = l := ⟨_, rfl⟩
      rw [hl] at e0 e1 HFS
      clear hl hil
      have HE1 := Lib.hid e1
      have hi63 : (i : Int) < n := by omega
      have HSL := Lib.hid (show (rows.take i).flatten.length + l.length ≤ 1000000 by
        have := HTB.out
        rw [HFS.out, List.length_append] at this
        omega)
      have HBS := Lib.hid (show B ≤ wr.heap.size by rw [← HBE.out]; exact HK.out.size)
      clear e1 e2
      obtain ⟨A1, c1, hv1, how⟩ := HO.out
      have hlq := Lib.hid how.lt
      obtain ⟨tl, htl⟩ : ∃ tl, (rows.take i).flatten.length = tl := ⟨_, rfl⟩
      rw [htl] at hv1 HSL
      have HTL := Lib.hid htl
      subst hv1
      obtain ⟨ll, hll⟩ : ∃ ll, l.length = ll := ⟨_, rfl⟩
      rw [hll] at e0 HSL
      have HE2 := Lib.hid (show OpsAt wr Ai ll ci l by rw [← hll]; exact HE1.out)
      clear htl hll how
      go_wp2_with (at_builtin; go_loud (refine wpList_append_ops rfl _ _ rfl B (rows.take i).flatten (.slice A1 tl c1) rfl HO.out Ai ll ci l rfl HE2.out (by rw [HTL.out]; exact HSL.out) HBS.out ?c0))
      case c0 =>
        intro v' w3 hown hk3 _
        have HO3 := Lib.hid (show OpsOwn w3 B (rows.take (i + 1)).flatten v' by rw [HFS.out]; exact hown)
        have HK3 := Lib.hid (show Keeps (fun _ => False) w w3 from HK.out.trans hk3 (fun b hb h => by
          have := (hlq.out b h).1
          have := HBE.out
          omega))
        clear hown hk3
        go_wp2_with fail
        go_roundw
        case rel => exact ⟨i + 1, by omega, by go_num, HO3.out, HK3.out⟩
        case measure => simp [intOf]; omega
    · obtain rfl : i = n := by omega
      have HEE := Lib.hid (show OpsOwn wr B rows.flatten _ from by
        have := HO.out
        rwa [List.take_of_length_le (by rw [HL.out]; exact Nat.le_refl _)] at this)
      go_wp2_with fail
      go_ret
      exact ⟨_, rfl, HEE.out, HK.out⟩
/-- are two ops one? -/
def opEqB (x y : Ir.Op) : Bool := (x.k.toList == y.k.toList) && ((x.d == y.d) && ((x.a == y.a) && ((x.b == y.b) && ((x.imm == y.imm) && (x.at_ == y.at_)))))
theorem op_ifs (zk yk : ByteArray) (zd za zb zi zt yd ya yb yi yt : Int) (q : Bool) (hq : q = ((zk.toList == yk.toList) && ((zd == yd) && ((za == ya) && ((zb == yb) && ((zi == yi) && (zt == yt))))))) (w : World)
    [Decidable (zk.toList = yk.toList)] [Decidable (zd = yd)] [Decidable (za = ya)] [Decidable (zb = yb)] [Decidable (zi = yi)] [Decidable (zt = yt)] :
    (if zk.toList = yk.toList then
      if zd = yd then
        if za = ya then
          if zb = yb then
            if zi = yi then
              if zt = yt then Result.ok (Next.value (Value.bool true)) w
              else Result.ok (Next.value (Value.bool false)) w
            else Result.ok (Next.value (Value.bool false)) w
          else Result.ok (Next.value (Value.bool false)) w
        else Result.ok (Next.value (Value.bool false)) w
      else Result.ok (Next.value (Value.bool false)) w
    else Result.ok (Next.value (Value.bool false)) w) = Result.ok (Next.value (Value.bool q)) w := by
  subst hq
  by_cases h1 : zk.toList = yk.toList <;> by_cases h2 : zd = yd <;> by_cases h3 : za = ya <;> by_cases h4 : zb = yb <;> by_cases h5 : zi = yi <;> by_cases h6 : zt = yt <;> simp [h1, h2, h3, h4, h5, h6]
theorem cntEq_step (l : List Ir.Op) (y : Ir.Op) (i : Nat) (h : i < l.length) : (l.take (i + 1)).countP (fun x => opEqB x y) = (l.take i).countP (fun x => opEqB x y) + if opEqB (l.getD i Ir.nop) y = true then 1 else 0 := by
  rw [List.take_succ_eq_append_getElem h, List.countP_append, List.countP_singleton]
  have : l.getD i Ir.nop = l[i] := by simp [List.getD, h]
  rw [this]
set_option maxHeartbeats 8000000 in
set_option maxRecDepth 100000 in
theorem fewOps_perm (A B : Option Addr) (n ca cb : Nat) (a b : List Ir.Op) (w : World) (VA : OpsAt w A n ca a) (VB : OpsAt w B n cb b) (hca : ca ≤ 9223372036854775807) (hcb : cb ≤ 9223372036854775807) (hn : n ≤ 1000000) (hp : a.Perm b) :
    Calls Tryz.prog 15 #[.slice A n ca, .slice B n cb] w fun e w' => e = .returned (.bool true) ∧ Keeps (fun _ => False) w w' := by
  have b1 := VA.le
  have b2 := VB.le
  have HLA := Lib.hid VA.len
  have HLB := Lib.hid VB.len
  have HA := Lib.hid VA
  have HB := Lib.hid VB
  have HP := Lib.hid hp
  clear VA VB hp
  go_enter Tryz.func15, Tryz.ntmps15
  go_wp2_with fail
  go_loopw [5] (fun s5 wr => ∃ i : Nat, i ≤ n ∧ s5 = .int .i64 i ∧ Keeps (fun _ => False) w wr) (fun s5 _ => n - (intOf s5).toNat)
  case atStart => exact ⟨0, by omega, rfl, Keeps.refl _ w⟩
  case round =>
    obtain ⟨i, hi, rfl, hK⟩ := hrel
    have HK := Lib.hid hK
    clear hK
    by_cases hlt : i < n
    · have hi63 : (i : Int) < n := by omega
      have hia : i < a.length := by rw [HLA.out]; exact hlt
      have HGI := Lib.hid (fun w' (q : Keeps (fun _ => False) w w') => (HA.out.quiet q).get hlt)
      obtain ⟨y, hy⟩ : ∃ y, a.getD i Ir.nop = y := ⟨_, rfl⟩
      rw [hy] at HGI
      have HCE := Lib.hid (HP.out.countP_eq (fun x => opEqB x y))
      have HSA := Lib.hid (fun k h => cntEq_step a y k h)
      have HSB := Lib.hid (fun k h => cntEq_step b y k h)
      have HTA := Lib.hid (show (a.take n).countP (fun x => opEqB x y) = a.countP (fun x => opEqB x y) by rw [List.take_of_length_le (by rw [HLA.out]; exact Nat.le_refl _)])
      have HTB := Lib.hid (show (b.take n).countP (fun x => opEqB x y) = b.countP (fun x => opEqB x y) by rw [List.take_of_length_le (by rw [HLB.out]; exact Nat.le_refl _)])
      clear hy hia
      generalize wr = w1 at *
      go_wp2_with fail
      go_loopw [6, 7] (fun s6 s7 wr => ∃ k c : Nat, k ≤ n ∧ c ≤ k ∧ s6 = .int .i64 c ∧ s7 = .int .i64 k ∧ (a.take k).countP (fun x => opEqB x y) = c ∧ Keeps (fun _ => False) w wr) (fun _ s7 _ => n - (intOf s7).toNat)
      case atStart => exact ⟨0, 0, by omega, by omega, rfl, rfl, rfl, HK.out⟩
      case round =>
        obtain ⟨k, c, hk, hck, rfl, rfl, hcn, hK2⟩ := hrel
        have HC := Lib.hid hcn
        have HK2 := Lib.hid hK2
        clear hcn hK2
        by_cases hkt : k < n
        · have hk63 : (k : Int) < n := by omega
          have HST := Lib.hid (HSA.out k (by rw [HLA.out]; exact hkt))
          obtain ⟨bb, oo, hab, p0, p1, p2, p3, p4, p5⟩ := HGI.out wr HK2.out
          subst hab
          obtain ⟨bb2, oo2, hab2, r0, r1, r2, r3, r4, r5⟩ := (HA.out.quiet HK2.out).get hkt
          obtain ⟨rfl, rfl⟩ : bb = bb2 ∧ oo = oo2 := by injection hab2 with h; injection h with h1 h2; exact ⟨h1, h2⟩
          obtain ⟨z, hz⟩ : ∃ z, a.getD k Ir.nop = z := ⟨_, rfl⟩
          rw [hz] at r0 r1 r2 r3 r4 r5 HST
          clear hz hab2
          have HEQ : Hid (opEqB z y = ((z.k.toList == y.k.toList) && ((z.d == y.d) && ((z.a == y.a) && ((z.b == y.b) && ((z.imm == y.imm) && (z.at_ == y.at_))))))) := Lib.hid rfl
          generalize opEqB z y = q at *
          obtain ⟨zk, zd, za, zb, zi, zt⟩ := z
          obtain ⟨yk, yd, ya, yb, yi, yt⟩ := y
          simp only at p0 p1 p2 p3 p4 p5 r0 r1 r2 r3 r4 r5 HEQ
          go_upto_region 8 with fail
          refine wp_region_held_drew (S := fun w' => Keeps (fun _ => False) wr w') (by kernel_rfl) (Keeps.refl _ wr).drew (fun hH0 => ?_)
          refine wpAnyH_take (i := 0) (v := ?_) rfl (by kernel_rfl) (by kernel_rfl) (by kernel_rfl) (fun _ _ _ h => h) (Or.inl ⟨by go_simp, ?_⟩) hH0 ?_
          rotate_left
          · intro w' hSw
            go_simp
            try with_reducible rfl
          simp only [Act.put, List.setIfInBounds_toArray, List.set_cons_zero, List.set_cons_succ]
          refine wpAnyH_take (i := 1) (v := ?_) rfl (by kernel_rfl) (by kernel_rfl) (by kernel_rfl) (fun _ _ _ h => h) (Or.inl ⟨by go_simp, ?_⟩) hH0 ?_
          rotate_left
          · intro w' hSw
            go_simp
            try with_reducible rfl
          simp only [Act.put, List.setIfInBounds_toArray, List.set_cons_zero, List.set_cons_succ]
          refine wpAnyH_take (i := 2) (v := ?_) rfl (by kernel_rfl) (by kernel_rfl) (by kernel_rfl) (fun _ _ _ h => h) (Or.inl ⟨by go_simp, ?_⟩) hH0 ?_
          rotate_left
          · intro w' hSw
            go_simp
            try with_reducible rfl
          simp only [Act.put, List.setIfInBounds_toArray, List.set_cons_zero, List.set_cons_succ]
          refine wpAnyH_take (i := 3) (v := ?_) rfl (by kernel_rfl) (by kernel_rfl) (by kernel_rfl) (fun _ _ _ h => h) (Or.inl ⟨by go_simp, ?_⟩) hH0 ?_
          rotate_left
          · intro w' hSw
            have g0 := Keeps.cell' hSw r0 (fun f => f)
            have g1 := Keeps.cell' hSw r1 (fun f => f)
            have g2 := Keeps.cell' hSw r2 (fun f => f)
            have g3 := Keeps.cell' hSw r3 (fun f => f)
            have g4 := Keeps.cell' hSw r4 (fun f => f)
            have g5 := Keeps.cell' hSw r5 (fun f => f)
            go_simp
            try with_reducible rfl
          simp only [Act.put, List.setIfInBounds_toArray, List.set_cons_zero, List.set_cons_succ]
          refine wpAnyH_take (i := 4) (v := ?_) rfl (by kernel_rfl) (by kernel_rfl) (by kernel_rfl) (fun _ _ _ h => h) (Or.inl ⟨by go_simp, ?_⟩) hH0 ?_
          rotate_left
          · intro w' hSw
            go_simp
            try with_reducible rfl
          simp only [Act.put, List.setIfInBounds_toArray, List.set_cons_zero, List.set_cons_succ]
          refine wpAnyH_take (i := 5) (v := ?_) rfl (by kernel_rfl) (by kernel_rfl) (by kernel_rfl) (fun _ _ _ h => h) (Or.inl ⟨by go_simp, ?_⟩) hH0 ?_
          rotate_left
          · intro w' hSw
            go_simp
            try with_reducible rfl
          simp only [Act.put, List.setIfInBounds_toArray, List.set_cons_zero, List.set_cons_succ]
          refine wpAnyH_take (i := 6) (v := ?_) rfl (by kernel_rfl) (by kernel_rfl) (by kernel_rfl) (fun _ _ _ h => h) (Or.inl ⟨by go_simp, ?_⟩) hH0 ?_
          rotate_left
          · intro w' hSw
            go_simp
            try with_reducible rfl
          simp only [Act.put, List.setIfInBounds_toArray, List.set_cons_zero, List.set_cons_succ]
          refine wpAnyH_take (i := 7) (v := ?_) rfl (by kernel_rfl) (by kernel_rfl) (by kernel_rfl) (fun _ _ _ h => h) (Or.inl ⟨by go_simp, ?_⟩) hH0 ?_
          rotate_left
          · intro w' hSw
            have g0 := Keeps.cell' hSw p0 (fun f => f)
            have g1 := Keeps.cell' hSw p1 (fun f => f)
            have g2 := Keeps.cell' hSw p2 (fun f => f)
            have g3 := Keeps.cell' hSw p3 (fun f => f)
            have g4 := Keeps.cell' hSw p4 (fun f => f)
            have g5 := Keeps.cell' hSw p5 (fun f => f)
            go_simp
            try with_reducible rfl
          simp only [Act.put, List.setIfInBounds_toArray, List.set_cons_zero, List.set_cons_succ]
          refine wpAnyH_ready (rs := [8]) (by kernel_rfl) (by simp) ?_
          refine AllReadyH.cons rfl (fun K hK => ?_) AllReadyH.nil
          go_simp
          rw [op_ifs zk yk zd za zb zi zt yd ya yb yi yt q HEQ.out]
          go_simp
          refine hK.out _ _ hH0 (fun _ => ?_)
          clear hK K
          try simp only [Act.put, List.setIfInBounds_toArray, List.set_cons_zero, List.set_cons_succ]
          refine wpAnyH_done (by kernel_rfl) ?_ _
          have HKR := Lib.hid (HK2.out.trans hH0 (fun _ _ h => h))
          clear p0 p1 p2 p3 p4 p5 r0 r1 r2 r3 r4 r5 hH0
          cases q
          · have HC2 := Lib.hid (show (a.take (k + 1)).countP (fun x => opEqB x ⟨yk, yd, ya, yb, yi, yt⟩) = c by rw [HST.out, HC.out]; rfl)
            go_wp2_with fail
            go_roundw
            case rel => exact ⟨k + 1, c, by omega, by omega, by go_num, by go_num, HC2.out, HKR.out⟩
            case measure => simp [intOf]; omega
          · have HC2 := Lib.hid (show (a.take (k + 1)).countP (fun x => opEqB x ⟨yk, yd, ya, yb, yi, yt⟩) = c + 1 by rw [HST.out, HC.out]; rfl)
            go_wp2_with fail
            go_roundw
            case rel => exact ⟨k + 1, c + 1, by omega, by omega, by go_num, by go_num, HC2.out, HKR.out⟩
            case measure => simp [intOf]; omega
        · have hkn : k = n := by omega
          have HNA := Lib.hid (show a.countP (fun x => opEqB x y) = c by rw [← HTA.out, ← hkn, HC.out])
          have HNB := Lib.hid (show b.countP (fun x => opEqB x y) = c by rw [← HCE.out, HNA.out])
          have hcn : c ≤ n := by omega
          clear HC HTA HCE HSA HK
          have t10 : decide (k < n) = false := decide_eq_false hkt
          clear hkn hkt
          generalize wr = w2 at *
          go_wp2_with fail
          clear t10
          go_loopw [6, 8] (fun s6 s8 wr => ∃ k d : Nat, k ≤ n ∧ d ≤ n ∧ s6 = .int .i64 d ∧ s8 = .int .i64 k ∧ d + (b.take k).countP (fun x => opEqB x y) = c ∧ Keeps (fun _ => False) w wr) (fun _ s8 _ => n - (intOf s8).toNat)
          case atStart => exact ⟨0, c, by omega, hcn, rfl, rfl, by simp, HK2.out⟩
          case round =>
            obtain ⟨k, d, hk, hdn, rfl, rfl, hcd, hK3⟩ := hrel
            have HC := Lib.hid hcd
            have HK3 := Lib.hid hK3
            clear hcd hK3
            by_cases hkt : k < n
            · have hk63 : (k : Int) < n := by omega
              have HST := Lib.hid (HSB.out k (by rw [HLB.out]; exact hkt))
              have HLE := Lib.hid (show (b.take (k + 1)).countP (fun x => opEqB x y) ≤ c by
                rw [← HNB.out]
                exact (List.take_sublist _ _).countP_le)
              obtain ⟨bb, oo, hab, p0, p1, p2, p3, p4, p5⟩ := HGI.out wr HK3.out
              subst hab
              obtain ⟨bb2, oo2, hab2, r0, r1, r2, r3, r4, r5⟩ := (HB.out.quiet HK3.out).get hkt
              subst hab2
              obtain ⟨z, hz⟩ : ∃ z, b.getD k Ir.nop = z := ⟨_, rfl⟩
              rw [hz] at r0 r1 r2 r3 r4 r5 HST
              clear hz
              have HEQ : Hid (opEqB z y = ((z.k.toList == y.k.toList) && ((z.d == y.d) && ((z.a == y.a) && ((z.b == y.b) && ((z.imm == y.imm) && (z.at_ == y.at_))))))) := Lib.hid rfl
              generalize opEqB z y = q at *
              obtain ⟨zk, zd, za, zb, zi, zt⟩ := z
              obtain ⟨yk, yd, ya, yb, yi, yt⟩ := y
              simp only at p0 p1 p2 p3 p4 p5 r0 r1 r2 r3 r4 r5 HEQ
              go_upto_region 13 with fail
              refine wp_region_held_drew (S := fun w' => Keeps (fun _ => False) wr w') (by kernel_rfl) (Keeps.refl _ wr).drew (fun hH0 => ?_)
              refine wpAnyH_take (i := 0) (v := ?_) rfl (by kernel_rfl) (by kernel_rfl) (by kernel_rfl) (fun _ _ _ h => h) (Or.inl ⟨by go_simp, ?_⟩) hH0 ?_
              rotate_left
              · intro w' hSw
                go_simp
                try with_reducible rfl
              simp only [Act.put, List.setIfInBounds_toArray, List.set_cons_zero, List.set_cons_succ]
              refine wpAnyH_take (i := 1) (v := ?_) rfl (by kernel_rfl) (by kernel_rfl) (by kernel_rfl) (fun _ _ _ h => h) (Or.inl ⟨by go_simp, ?_⟩) hH0 ?_
              rotate_left
              · intro w' hSw
                go_simp
                try with_reducible rfl
              simp only [Act.put, List.setIfInBounds_toArray, List.set_cons_zero, List.set_cons_succ]
              refine wpAnyH_take (i := 2) (v := ?_) rfl (by kernel_rfl) (by kernel_rfl) (by kernel_rfl) (fun _ _ _ h => h) (Or.inl ⟨by go_simp, ?_⟩) hH0 ?_
              rotate_left
              · intro w' hSw
                go_simp
                try with_reducible rfl
              simp only [Act.put, List.setIfInBounds_toArray, List.set_cons_zero, List.set_cons_succ]
              refine wpAnyH_take (i := 3) (v := ?_) rfl (by kernel_rfl) (by kernel_rfl) (by kernel_rfl) (fun _ _ _ h => h) (Or.inl ⟨by go_simp, ?_⟩) hH0 ?_
              rotate_left
              · intro w' hSw
                have g0 := Keeps.cell' hSw r0 (fun f => f)
                have g1 := Keeps.cell' hSw r1 (fun f => f)
                have g2 := Keeps.cell' hSw r2 (fun f => f)
                have g3 := Keeps.cell' hSw r3 (fun f => f)
                have g4 := Keeps.cell' hSw r4 (fun f => f)
                have g5 := Keeps.cell' hSw r5 (fun f => f)
                go_simp
                try with_reducible rfl
              simp only [Act.put, List.setIfInBounds_toArray, List.set_cons_zero, List.set_cons_succ]
              refine wpAnyH_take (i := 4) (v := ?_) rfl (by kernel_rfl) (by kernel_rfl) (by kernel_rfl) (fun _ _ _ h => h) (Or.inl ⟨by go_simp, ?_⟩) hH0 ?_
              rotate_left
              · intro w' hSw
                go_simp
                try with_reducible rfl
              simp only [Act.put, List.setIfInBounds_toArray, List.set_cons_zero, List.set_cons_succ]
              refine wpAnyH_take (i := 5) (v := ?_) rfl (by kernel_rfl) (by kernel_rfl) (by kernel_rfl) (fun _ _ _ h => h) (Or.inl ⟨by go_simp, ?_⟩) hH0 ?_
              rotate_left
              · intro w' hSw
                go_simp
                try with_reducible rfl
              simp only [Act.put, List.setIfInBounds_toArray, List.set_cons_zero, List.set_cons_succ]
              refine wpAnyH_take (i := 6) (v := ?_) rfl (by kernel_rfl) (by kernel_rfl) (by kernel_rfl) (fun _ _ _ h => h) (Or.inl ⟨by go_simp, ?_⟩) hH0 ?_
              rotate_left
              · intro w' hSw
                go_simp
                try with_reducible rfl
              simp only [Act.put, List.setIfInBounds_toArray, List.set_cons_zero, List.set_cons_succ]
              refine wpAnyH_take (i := 7) (v := ?_) rfl (by kernel_rfl) (by kernel_rfl) (by kernel_rfl) (fun _ _ _ h => h) (Or.inl ⟨by go_simp, ?_⟩) hH0 ?_
              rotate_left
              · intro w' hSw
                have g0 := Keeps.cell' hSw p0 (fun f => f)
                have g1 := Keeps.cell' hSw p1 (fun f => f)
                have g2 := Keeps.cell' hSw p2 (fun f => f)
                have g3 := Keeps.cell' hSw p3 (fun f => f)
                have g4 := Keeps.cell' hSw p4 (fun f => f)
                have g5 := Keeps.cell' hSw p5 (fun f => f)
                go_simp
                try with_reducible rfl
              simp only [Act.put, List.setIfInBounds_toArray, List.set_cons_zero, List.set_cons_succ]
              refine wpAnyH_ready (rs := [8]) (by kernel_rfl) (by simp) ?_
              refine AllReadyH.cons rfl (fun K hK => ?_) AllReadyH.nil
              go_simp
              rw [op_ifs zk yk zd za zb zi zt yd ya yb yi yt q HEQ.out]
              go_simp
              refine hK.out _ _ hH0 (fun _ => ?_)
              clear hK K
              try simp only [Act.put, List.setIfInBounds_toArray, List.set_cons_zero, List.set_cons_succ]
              refine wpAnyH_done (by kernel_rfl) ?_ _
              have HKR := Lib.hid (HK3.out.trans hH0 (fun _ _ h => h))
              clear p0 p1 p2 p3 p4 p5 r0 r1 r2 r3 r4 r5 hH0
              cases q
              · have HC2 := Lib.hid (show d + (b.take (k + 1)).countP (fun x => opEqB x ⟨yk, yd, ya, yb, yi, yt⟩) = c by rw [HST.out]; exact HC.out)
                go_wp2_with fail
                go_roundw
                case rel => exact ⟨k + 1, d, by omega, by omega, by go_num, by go_num, HC2.out, HKR.out⟩
                case measure => simp [intOf]; omega
              · obtain ⟨d', rfl⟩ : ∃ d', d = d' + 1 := ⟨d - 1, by
                  have h1 := HLE.out
                  have h2 := HC.out
                  rw [HST.out, if_pos rfl] at h1
                  omega⟩
                have HC2 := Lib.hid (show d' + (b.take (k + 1)).countP (fun x => opEqB x ⟨yk, yd, ya, yb, yi, yt⟩) = c by have h := HC.out; rw [HST.out, if_pos rfl]; omega)
                have hw1 : ((d' + 1 : Nat) : Int) - 1 = (d' : Int) := by omega
                go_wp2_with fail
                go_roundw
                case rel => exact ⟨k + 1, d', by omega, by omega, by first | rfl | (congr 1; omega), by go_num, HC2.out, HKR.out⟩
                case measure => simp [intOf]; omega
            · have hkn : k = n := by omega
              have hd0 : d = 0 := by
                have := HC.out
                rw [hkn, HTB.out, HNB.out] at this
                omega
              have t9 : ((d : Int) != 0) = false := by rw [hd0]; rfl
              have t10 : decide (k < n) = false := decide_eq_false hkt
              clear hd0 hkn hkt
              go_wp2_with fail
              go_roundw
              case rel => exact ⟨i + 1, by omega, by go_num, HK3.out⟩
              case measure => simp [intOf]; omega
    · obtain rfl : i = n := by omega
      go_wp2_with fail
      go_ret
      exact ⟨by simp, HK.out⟩
end Go.Proofs.YtknhfobcejpmeaaGreatDoor

/- ReadsOf -/
/- The walk of the reference's ReadsOf. -/
namespace Go.Proofs.YtknhfobcejpmeaaGreatDoor
open Go.RowKit Go.Deep
set_option linter.unusedVariables false
set_option linter.unusedSimpArgs false

theorem Tryz.info_int : (Tryz.prog.info? 3).map (fun i => (i.zero, i.size, i.bytes)) = some (some (.int .i64 0), 1, 8) := by kernel_rfl
def intsL (l : List Int) : List Value := l.map (.int .i64)
/-- a row of ints of the call's own -/
def IntsOwn (w : World) (base : Nat) (l : List Int) (v : Value) : Prop := ∃ A cap, v = .slice A l.length cap ∧ w.ownsRow base 3 1 v l.length (intsL l)
theorem IntsOwn.reads {w : World} {base : Nat} {l : List Int} {v : Value} (h : IntsOwn w base l v) : ∃ A cap, v = .slice A l.length cap ∧ cap ≤ maxLen ∧ Reads w A l.length cap (fun i => .int .i64 (l.getD i 0)) := by
  obtain ⟨A, cap, rfl, h1, ⟨h2, h3⟩ | ⟨g, cap', cur, h2, h3, h4, h5, h6, h7, h8⟩⟩ := h
  · injection h2 with e1 e2 e3
    subst e1 e3
    exact ⟨none, 0, rfl, by decide, by omega, .inl rfl⟩
  · injection h2 with e1 e2 e3
    subst e1 e3
    refine ⟨_, cap, rfl, h6, h5, .inr ⟨g, 0, rfl, (Array.getElem?_eq_some_iff.1 h4).1, fun i hi => ?_⟩⟩
    have e : (cur.toList.take (l.length * 1))[i]? = (intsL l)[i]? := by rw [h8]
    rw [List.getElem?_take_of_lt (by omega)] at e
    unfold World.cell?
    rw [h4]
    simp only [Nat.zero_add]
    unfold intsL at e
    rw [List.getElem?_map, List.getElem?_eq_getElem hi] at e
    rw [List.getD_eq_getElem?_getD, List.getElem?_eq_getElem hi]
    simpa using e
/-- one more int -/
theorem IntsOwn.more {w w' : World} {base : Nat} {l : List Int} {v v' : Value} {a : Int} {n : Nat} (hn : n = l.length) (h : w'.ownsRow base 3 1 v' (n + 1) (intsL l ++ [.int .i64 a])) : IntsOwn w' base (l ++ [a]) v' := by
  subst hn
  obtain ⟨A, cap, rfl⟩ := owns_slice h
  refine ⟨A, cap, by simp, ?_⟩
  rw [show (l ++ [a]).length = l.length + 1 by simp, show intsL (l ++ [a]) = intsL l ++ [.int .i64 a] by simp [intsL]]
  exact h
theorem owns_low {w : World} {base base' : Nat} {e : TypeId} {size : Nat} {v : Value} {n : Nat} {xs : List Value} (h : w.ownsRow base e size v n xs) (hb : base' ≤ base) : w.ownsRow base' e size v n xs := by
  obtain ⟨h1, h2 | ⟨g, cap, cur, h2, h3, h4⟩⟩ := h
  · exact ⟨h1, .inl h2⟩
  · exact ⟨h1, .inr ⟨g, cap, cur, h2, Nat.le_trans hb h3, h4⟩⟩
theorem ints_cell (a : Int) : ∀ u ∈ [Value.int .i64 a], u.oneCell' = true := by
  intro u hu
  simp only [List.mem_singleton] at hu
  subst hu
  rfl
set_option maxHeartbeats 4000000 in
set_option maxRecDepth 100000 in
theorem readsOf_any (o : Ir.Op) (w : World) :
    Calls Tryz.prog 95 #[.agg (opC o)] w fun e w' => ∃ v, e = .returned v ∧ IntsOwn w' w.heap.size (Ir.reads o) v ∧ Keeps (fun _ => False) w w' := by
  obtain ⟨i0, hi, hz0, hz1, hz2⟩ := info_parts Tryz.info_int
  obtain ⟨k, d, a, b, im, t⟩ := o
  have hr : Ir.reads ⟨k, d, a, b, im, t⟩ = ((if hasL (Ir.kn k) 65 = true then [a] else []) ++ (if (hasL (Ir.kn k) 66 && !(Ir.kn k == 5)) = true then [b] else [])) ++ (if Ir.isDiv (Ir.kn k) = true then [d] else []) := by
    unfold Ir.reads
    rw [show hasL (Ir.kn k) 65 = Ir.hasA (Ir.kn k) from rfl, show hasL (Ir.kn k) 66 = Ir.hasB (Ir.kn k) from rfl, nat_beq]
    simp
  rw [hr]
  clear hr
  obtain ⟨bw, hB⟩ : ∃ B, w.heap.size = B := ⟨_, rfl⟩
  rw [hB]
  have HBW := Lib.hid hB
  clear hB
  have HF := Lib.hid (fun w => fieldsOf_any k w)
  have HIA := Lib.hid (fun w => isOf_fields (Ir.kn k) (Ir.kn_le k) 65 (.inr (.inl rfl)) w)
  have HIB := Lib.hid (fun w => isOf_fields (Ir.kn k) (Ir.kn_le k) 66 (.inr (.inr (.inl rfl))) w)
  have HD := Lib.hid (fun w => isDiv_any k w)
  have h5 := is_load k
  have HN := Lib.hid (op_new w k d a b im t 100)
  generalize hasL (Ir.kn k) 65 = pa at *
  generalize hasL (Ir.kn k) 66 = pb at *
  generalize (Ir.kn k == 5) = p5 at *
  generalize Ir.isDiv (Ir.kn k) = pd at *
  generalize fieldsB (Ir.kn k) = fb at *
  have h5n : (k.toList != [108, 111, 97, 100]) = !p5 := by rw [bne, h5]
  unfold opC
  go_enter Tryz.func95, Tryz.ntmps95
  go_upto_region 1 with fail
  obtain ⟨hV, hK⟩ := HN.out
  have hB := HBW.out
  clear HBW
  have hxl := World.block_lt_of_cell? _ _ hV.v0
  generalize w.alloc _ = w0 at *
  generalize w.heap.size = x at *
  have HV0 := Lib.hid hV
  have HK0 := Lib.hid hK
  obtain ⟨B, hBB⟩ : ∃ B, w0.heap.size = B := ⟨_, rfl⟩
  have HX := Lib.hid (show x < B ∧ bw ≤ B ∧ w.heap.size ≤ B from by have := hK.size; simp only at hxl; omega)
  have HB0 := Lib.hid (show B ≤ w0.heap.size by omega)
  have HP0 := Lib.hid (World.ownsRow_nil w0 B 3 1)
  clear hxl hBB hB
  obtain ⟨v0, v1, v2, v3, v4, v5⟩ := hV
  simp only at v0 v1 v2 v3 v4 v5
  clear hK HN

  go_wp2_with fail
  refine (HF.out _).mono ?_
  rintro e w' ⟨rfl, hw'⟩
  obtain rfl := hw'.symm
  go_wp2_with fail
  refine (HIA.out _).mono ?_
  rintro e w' ⟨rfl, hw'⟩
  obtain rfl := hw'.symm
  cases pa
  ·
    go_wp2_with fail
    refine (HIB.out _).mono ?_
    rintro e w' ⟨rfl, hw'⟩
    obtain rfl := hw'.symm
    cases pb
    ·
      go_wp2_with fail
      refine (HD.out _).mono ?_
      rintro e w' ⟨rfl, hw'⟩
      obtain rfl := hw'.symm
      cases pd
      ·
        go_wp2_with fail
        go_ret
        exact ⟨_, rfl, ⟨none, 0, rfl, owns_low HP0.out (by have := HX.out.2.1; have := HX.out.2.2; omega)⟩, HK0.out⟩
      ·
        have HQ0 := Lib.hid (show (w0.alloc (.cells #[.int .i64 d] 3)).ownsRow B 3 1 (.slice none 0 0) 0 (intsL []) from HP0.out.alloc _)
        have HS0 := Lib.hid (show B ≤ (w0.alloc (.cells #[.int .i64 d] 3)).heap.size by rw [nblk_alloc]; have := HB0.out; omega)
        have HA0 := Lib.hid ((Keeps.refl (fun _ => False) w0).alloc (.cells #[.int .i64 d] 3))
        have HC0 := Lib.hid (fun j u hj => cells_new w0 [.int .i64 d] 3 j u hj)
        go_wp2_with (at_builtin; go_loud (refine wpList_append_own _ rfl _ _ 84 rfl B 3 i0 _ 1 8 Tryz.underlying84 hi hz0 hz1 hz2 rfl (by decide) (.slice none 0 0) 0 (intsL []) rfl HQ0.out ⟨w0.heap.size, 0, none⟩ 1 1 [.int .i64 d] rfl rfl HC0.out (ints_cell d) (by decide) (by decide) HS0.out ?c0))
        case c0 =>
          intro v' w1 hown hgrow hnil
          obtain ⟨A1, cap1, rfl⟩ := owns_slice hown
          have hlt := HQ0.out.lt
          have HW1 := Lib.hid (show Keeps (fun k => B ≤ k) w0 w1 from ((HA0.out.mono (fun _ _ h => h.elim)).grown hgrow (fun k hk _ => (hlt k hk).1)))
          have HK1 := Lib.hid (show Keeps (fun _ => False) w w1 from HK0.out.trans HW1.out (fun b hb h => by have h : B ≤ b := h; have := HX.out.2.1; have := HX.out.2.2; omega))
          have HV1 := Lib.hid (HV0.out.keep HW1.out (by have := HX.out.1; omega))
          have HP1 := Lib.hid (show w1.ownsRow B 3 1 (.slice A1 1 cap1) 1 (intsL [d]) from hown)
          have HB1 := Lib.hid (Nat.le_trans HB0.out HW1.out.size)
          clear hown hgrow hnil hlt v0 v1 v2 v3 v4 v5
          obtain ⟨v0, v1, v2, v3, v4, v5⟩ := HV1.out
          simp only at v0 v1 v2 v3 v4 v5
          go_wp2_with fail
          go_ret
          exact ⟨_, rfl, ⟨A1, cap1, rfl, owns_low HP1.out (by have := HX.out.2.1; have := HX.out.2.2; omega)⟩, HK1.out⟩
    ·
      cases p5
      ·
        have HQ0 := Lib.hid (show (w0.alloc (.cells #[.int .i64 b] 3)).ownsRow B 3 1 (.slice none 0 0) 0 (intsL []) from HP0.out.alloc _)
        have HS0 := Lib.hid (show B ≤ (w0.alloc (.cells #[.int .i64 b] 3)).heap.size by rw [nblk_alloc]; have := HB0.out; omega)
        have HA0 := Lib.hid ((Keeps.refl (fun _ => False) w0).alloc (.cells #[.int .i64 b] 3))
        have HC0 := Lib.hid (fun j u hj => cells_new w0 [.int .i64 b] 3 j u hj)
        go_wp2_with (at_builtin; go_loud (refine wpList_append_own _ rfl _ _ 84 rfl B 3 i0 _ 1 8 Tryz.underlying84 hi hz0 hz1 hz2 rfl (by decide) (.slice none 0 0) 0 (intsL []) rfl HQ0.out ⟨w0.heap.size, 0, none⟩ 1 1 [.int .i64 b] rfl rfl HC0.out (ints_cell b) (by decide) (by decide) HS0.out ?c0))
        case c0 =>
          intro v' w1 hown hgrow hnil
          obtain ⟨A1, cap1, rfl⟩ := owns_slice hown
          have hlt := HQ0.out.lt
          have HW1 := Lib.hid (show Keeps (fun k => B ≤ k) w0 w1 from ((HA0.out.mono (fun _ _ h => h.elim)).grown hgrow (fun k hk _ => (hlt k hk).1)))
          have HK1 := Lib.hid (show Keeps (fun _ => False) w w1 from HK0.out.trans HW1.out (fun b hb h => by have h : B ≤ b := h; have := HX.out.2.1; have := HX.out.2.2; omega))
          have HV1 := Lib.hid (HV0.out.keep HW1.out (by have := HX.out.1; omega))
          have HP1 := Lib.hid (show w1.ownsRow B 3 1 (.slice A1 1 cap1) 1 (intsL [b]) from hown)
          have HB1 := Lib.hid (Nat.le_trans HB0.out HW1.out.size)
          clear hown hgrow hnil hlt v0 v1 v2 v3 v4 v5
          obtain ⟨v0, v1, v2, v3, v4, v5⟩ := HV1.out
          simp only at v0 v1 v2 v3 v4 v5
          go_wp2_with fail
          refine (HD.out _).mono ?_
          rintro e w' ⟨rfl, hw'⟩
          obtain rfl := hw'.symm
          cases pd
          ·
            go_wp2_with fail
            go_ret
            exact ⟨_, rfl, ⟨A1, cap1, rfl, owns_low HP1.out (by have := HX.out.2.1; have := HX.out.2.2; omega)⟩, HK1.out⟩
          ·
            have HQ1 := Lib.hid (show (w1.alloc (.cells #[.int .i64 d] 3)).ownsRow B 3 1 (.slice A1 1 cap1) 1 (intsL [b]) from HP1.out.alloc _)
            have HS1 := Lib.hid (show B ≤ (w1.alloc (.cells #[.int .i64 d] 3)).heap.size by rw [nblk_alloc]; have := HB1.out; omega)
            have HA1 := Lib.hid ((Keeps.refl (fun _ => False) w1).alloc (.cells #[.int .i64 d] 3))
            have HC1 := Lib.hid (fun j u hj => cells_new w1 [.int .i64 d] 3 j u hj)
            go_wp2_with (at_builtin; go_loud (refine wpList_append_own _ rfl _ _ 84 rfl B 3 i0 _ 1 8 Tryz.underlying84 hi hz0 hz1 hz2 rfl (by decide) (.slice A1 1 cap1) 1 (intsL [b]) rfl HQ1.out ⟨w1.heap.size, 0, none⟩ 1 1 [.int .i64 d] rfl rfl HC1.out (ints_cell d) (by decide) (by decide) HS1.out ?c1))
            case c1 =>
              intro v' w2 hown hgrow hnil
              obtain ⟨A2, cap2, rfl⟩ := owns_slice hown
              have hlt := HQ1.out.lt
              have HW2 := Lib.hid (show Keeps (fun k => B ≤ k) w1 w2 from ((HA1.out.mono (fun _ _ h => h.elim)).grown hgrow (fun k hk _ => (hlt k hk).1)))
              have HK2 := Lib.hid (show Keeps (fun _ => False) w w2 from HK1.out.trans HW2.out (fun b hb h => by have h : B ≤ b := h; have := HX.out.2.1; have := HX.out.2.2; omega))
              have HV2 := Lib.hid (HV1.out.keep HW2.out (by have := HX.out.1; omega))
              have HP2 := Lib.hid (show w2.ownsRow B 3 1 (.slice A2 2 cap2) 2 (intsL [b, d]) from hown)
              have HB2 := Lib.hid (Nat.le_trans HB1.out HW2.out.size)
              clear hown hgrow hnil hlt v0 v1 v2 v3 v4 v5
              obtain ⟨v0, v1, v2, v3, v4, v5⟩ := HV2.out
              simp only at v0 v1 v2 v3 v4 v5
              go_wp2_with fail
              go_ret
              exact ⟨_, rfl, ⟨A2, cap2, rfl, owns_low HP2.out (by have := HX.out.2.1; have := HX.out.2.2; omega)⟩, HK2.out⟩
      ·
        go_wp2_with fail
        refine (HD.out _).mono ?_
        rintro e w' ⟨rfl, hw'⟩
        obtain rfl := hw'.symm
        cases pd
        ·
          go_wp2_with fail
          go_ret
          exact ⟨_, rfl, ⟨none, 0, rfl, owns_low HP0.out (by have := HX.out.2.1; have := HX.out.2.2; omega)⟩, HK0.out⟩
        ·
          have HQ0 := Lib.hid (show (w0.alloc (.cells #[.int .i64 d] 3)).ownsRow B 3 1 (.slice none 0 0) 0 (intsL []) from HP0.out.alloc _)
          have HS0 := Lib.hid (show B ≤ (w0.alloc (.cells #[.int .i64 d] 3)).heap.size by rw [nblk_alloc]; have := HB0.out; omega)
          have HA0 := Lib.hid ((Keeps.refl (fun _ => False) w0).alloc (.cells #[.int .i64 d] 3))
          have HC0 := Lib.hid (fun j u hj => cells_new w0 [.int .i64 d] 3 j u hj)
          go_wp2_with (at_builtin; go_loud (refine wpList_append_own _ rfl _ _ 84 rfl B 3 i0 _ 1 8 Tryz.underlying84 hi hz0 hz1 hz2 rfl (by decide) (.slice none 0 0) 0 (intsL []) rfl HQ0.out ⟨w0.heap.size, 0, none⟩ 1 1 [.int .i64 d] rfl rfl HC0.out (ints_cell d) (by decide) (by decide) HS0.out ?c0))
          case c0 =>
            intro v' w1 hown hgrow hnil
            obtain ⟨A1, cap1, rfl⟩ := owns_slice hown
            have hlt := HQ0.out.lt
            have HW1 := Lib.hid (show Keeps (fun k => B ≤ k) w0 w1 from ((HA0.out.mono (fun _ _ h => h.elim)).grown hgrow (fun k hk _ => (hlt k hk).1)))
            have HK1 := Lib.hid (show Keeps (fun _ => False) w w1 from HK0.out.trans HW1.out (fun b hb h => by have h : B ≤ b := h; have := HX.out.2.1; have := HX.out.2.2; omega))
            have HV1 := Lib.hid (HV0.out.keep HW1.out (by have := HX.out.1; omega))
            have HP1 := Lib.hid (show w1.ownsRow B 3 1 (.slice A1 1 cap1) 1 (intsL [d]) from hown)
            have HB1 := Lib.hid (Nat.le_trans HB0.out HW1.out.size)
            clear hown hgrow hnil hlt v0 v1 v2 v3 v4 v5
            obtain ⟨v0, v1, v2, v3, v4, v5⟩ := HV1.out
            simp only at v0 v1 v2 v3 v4 v5
            go_wp2_with fail
            go_ret
            exact ⟨_, rfl, ⟨A1, cap1, rfl, owns_low HP1.out (by have := HX.out.2.1; have := HX.out.2.2; omega)⟩, HK1.out⟩
  ·
    have HQ0 := Lib.hid (show (w0.alloc (.cells #[.int .i64 a] 3)).ownsRow B 3 1 (.slice none 0 0) 0 (intsL []) from HP0.out.alloc _)
    have HS0 := Lib.hid (show B ≤ (w0.alloc (.cells #[.int .i64 a] 3)).heap.size by rw [nblk_alloc]; have := HB0.out; omega)
    have HA0 := Lib.hid ((Keeps.refl (fun _ => False) w0).alloc (.cells #[.int .i64 a] 3))
    have HC0 := Lib.hid (fun j u hj => cells_new w0 [.int .i64 a] 3 j u hj)
    go_wp2_with (at_builtin; go_loud (refine wpList_append_own _ rfl _ _ 84 rfl B 3 i0 _ 1 8 Tryz.underlying84 hi hz0 hz1 hz2 rfl (by decide) (.slice none 0 0) 0 (intsL []) rfl HQ0.out ⟨w0.heap.size, 0, none⟩ 1 1 [.int .i64 a] rfl rfl HC0.out (ints_cell a) (by decide) (by decide) HS0.out ?c0))
    case c0 =>
      intro v' w1 hown hgrow hnil
      obtain ⟨A1, cap1, rfl⟩ := owns_slice hown
      have hlt := HQ0.out.lt
      have HW1 := Lib.hid (show Keeps (fun k => B ≤ k) w0 w1 from ((HA0.out.mono (fun _ _ h => h.elim)).grown hgrow (fun k hk _ => (hlt k hk).1)))
      have HK1 := Lib.hid (show Keeps (fun _ => False) w w1 from HK0.out.trans HW1.out (fun b hb h => by have h : B ≤ b := h; have := HX.out.2.1; have := HX.out.2.2; omega))
      have HV1 := Lib.hid (HV0.out.keep HW1.out (by have := HX.out.1; omega))
      have HP1 := Lib.hid (show w1.ownsRow B 3 1 (.slice A1 1 cap1) 1 (intsL [a]) from hown)
      have HB1 := Lib.hid (Nat.le_trans HB0.out HW1.out.size)
      clear hown hgrow hnil hlt v0 v1 v2 v3 v4 v5
      obtain ⟨v0, v1, v2, v3, v4, v5⟩ := HV1.out
      simp only at v0 v1 v2 v3 v4 v5
      go_wp2_with fail
      refine (HIB.out _).mono ?_
      rintro e w' ⟨rfl, hw'⟩
      obtain rfl := hw'.symm
      cases pb
      ·
        go_wp2_with fail
        refine (HD.out _).mono ?_
        rintro e w' ⟨rfl, hw'⟩
        obtain rfl := hw'.symm
        cases pd
        ·
          go_wp2_with fail
          go_ret
          exact ⟨_, rfl, ⟨A1, cap1, rfl, owns_low HP1.out (by have := HX.out.2.1; have := HX.out.2.2; omega)⟩, HK1.out⟩
        ·
          have HQ1 := Lib.hid (show (w1.alloc (.cells #[.int .i64 d] 3)).ownsRow B 3 1 (.slice A1 1 cap1) 1 (intsL [a]) from HP1.out.alloc _)
          have HS1 := Lib.hid (show B ≤ (w1.alloc (.cells #[.int .i64 d] 3)).heap.size by rw [nblk_alloc]; have := HB1.out; omega)
          have HA1 := Lib.hid ((Keeps.refl (fun _ => False) w1).alloc (.cells #[.int .i64 d] 3))
          have HC1 := Lib.hid (fun j u hj => cells_new w1 [.int .i64 d] 3 j u hj)
          go_wp2_with (at_builtin; go_loud (refine wpList_append_own _ rfl _ _ 84 rfl B 3 i0 _ 1 8 Tryz.underlying84 hi hz0 hz1 hz2 rfl (by decide) (.slice A1 1 cap1) 1 (intsL [a]) rfl HQ1.out ⟨w1.heap.size, 0, none⟩ 1 1 [.int .i64 d] rfl rfl HC1.out (ints_cell d) (by decide) (by decide) HS1.out ?c1))
          case c1 =>
            intro v' w2 hown hgrow hnil
            obtain ⟨A2, cap2, rfl⟩ := owns_slice hown
            have hlt := HQ1.out.lt
            have HW2 := Lib.hid (show Keeps (fun k => B ≤ k) w1 w2 from ((HA1.out.mono (fun _ _ h => h.elim)).grown hgrow (fun k hk _ => (hlt k hk).1)))
            have HK2 := Lib.hid (show Keeps (fun _ => False) w w2 from HK1.out.trans HW2.out (fun b hb h => by have h : B ≤ b := h; have := HX.out.2.1; have := HX.out.2.2; omega))
            have HV2 := Lib.hid (HV1.out.keep HW2.out (by have := HX.out.1; omega))
            have HP2 := Lib.hid (show w2.ownsRow B 3 1 (.slice A2 2 cap2) 2 (intsL [a, d]) from hown)
            have HB2 := Lib.hid (Nat.le_trans HB1.out HW2.out.size)
            clear hown hgrow hnil hlt v0 v1 v2 v3 v4 v5
            obtain ⟨v0, v1, v2, v3, v4, v5⟩ := HV2.out
            simp only at v0 v1 v2 v3 v4 v5
            go_wp2_with fail
            go_ret
            exact ⟨_, rfl, ⟨A2, cap2, rfl, owns_low HP2.out (by have := HX.out.2.1; have := HX.out.2.2; omega)⟩, HK2.out⟩
      ·
        cases p5
        ·
          have HQ1 := Lib.hid (show (w1.alloc (.cells #[.int .i64 b] 3)).ownsRow B 3 1 (.slice A1 1 cap1) 1 (intsL [a]) from HP1.out.alloc _)
          have HS1 := Lib.hid (show B ≤ (w1.alloc (.cells #[.int .i64 b] 3)).heap.size by rw [nblk_alloc]; have := HB1.out; omega)
          have HA1 := Lib.hid ((Keeps.refl (fun _ => False) w1).alloc (.cells #[.int .i64 b] 3))
          have HC1 := Lib.hid (fun j u hj => cells_new w1 [.int .i64 b] 3 j u hj)
          go_wp2_with (at_builtin; go_loud (refine wpList_append_own _ rfl _ _ 84 rfl B 3 i0 _ 1 8 Tryz.underlying84 hi hz0 hz1 hz2 rfl (by decide) (.slice A1 1 cap1) 1 (intsL [a]) rfl HQ1.out ⟨w1.heap.size, 0, none⟩ 1 1 [.int .i64 b] rfl rfl HC1.out (ints_cell b) (by decide) (by decide) HS1.out ?c1))
          case c1 =>
            intro v' w2 hown hgrow hnil
            obtain ⟨A2, cap2, rfl⟩ := owns_slice hown
            have hlt := HQ1.out.lt
            have HW2 := Lib.hid (show Keeps (fun k => B ≤ k) w1 w2 from ((HA1.out.mono (fun _ _ h => h.elim)).grown hgrow (fun k hk _ => (hlt k hk).1)))
            have HK2 := Lib.hid (show Keeps (fun _ => False) w w2 from HK1.out.trans HW2.out (fun b hb h => by have h : B ≤ b := h; have := HX.out.2.1; have := HX.out.2.2; omega))
            have HV2 := Lib.hid (HV1.out.keep HW2.out (by have := HX.out.1; omega))
            have HP2 := Lib.hid (show w2.ownsRow B 3 1 (.slice A2 2 cap2) 2 (intsL [a, b]) from hown)
            have HB2 := Lib.hid (Nat.le_trans HB1.out HW2.out.size)
            clear hown hgrow hnil hlt v0 v1 v2 v3 v4 v5
            obtain ⟨v0, v1, v2, v3, v4, v5⟩ := HV2.out
            simp only at v0 v1 v2 v3 v4 v5
            go_wp2_with fail
            refine (HD.out _).mono ?_
            rintro e w' ⟨rfl, hw'⟩
            obtain rfl := hw'.symm
            cases pd
            ·
              go_wp2_with fail
              go_ret
              exact ⟨_, rfl, ⟨A2, cap2, rfl, owns_low HP2.out (by have := HX.out.2.1; have := HX.out.2.2; omega)⟩, HK2.out⟩
            ·
              have HQ2 := Lib.hid (show (w2.alloc (.cells #[.int .i64 d] 3)).ownsRow B 3 1 (.slice A2 2 cap2) 2 (intsL [a, b]) from HP2.out.alloc _)
              have HS2 := Lib.hid (show B ≤ (w2.alloc (.cells #[.int .i64 d] 3)).heap.size by rw [nblk_alloc]; have := HB2.out; omega)
              have HA2 := Lib.hid ((Keeps.refl (fun _ => False) w2).alloc (.cells #[.int .i64 d] 3))
              have HC2 := Lib.hid (fun j u hj => cells_new w2 [.int .i64 d] 3 j u hj)
              go_wp2_with (at_builtin; go_loud (refine wpList_append_own _ rfl _ _ 84 rfl B 3 i0 _ 1 8 Tryz.underlying84 hi hz0 hz1 hz2 rfl (by decide) (.slice A2 2 cap2) 2 (intsL [a, b]) rfl HQ2.out ⟨w2.heap.size, 0, none⟩ 1 1 [.int .i64 d] rfl rfl HC2.out (ints_cell d) (by decide) (by decide) HS2.out ?c2))
              case c2 =>
                intro v' w3 hown hgrow hnil
                obtain ⟨A3, cap3, rfl⟩ := owns_slice hown
                have hlt := HQ2.out.lt
                have HW3 := Lib.hid (show Keeps (fun k => B ≤ k) w2 w3 from ((HA2.out.mono (fun _ _ h => h.elim)).grown hgrow (fun k hk _ => (hlt k hk).1)))
                have HK3 := Lib.hid (show Keeps (fun _ => False) w w3 from HK2.out.trans HW3.out (fun b hb h => by have h : B ≤ b := h; have := HX.out.2.1; have := HX.out.2.2; omega))
                have HV3 := Lib.hid (HV2.out.keep HW3.out (by have := HX.out.1; omega))
                have HP3 := Lib.hid (show w3.ownsRow B 3 1 (.slice A3 3 cap3) 3 (intsL [a, b, d]) from hown)
                have HB3 := Lib.hid (Nat.le_trans HB2.out HW3.out.size)
                clear hown hgrow hnil hlt v0 v1 v2 v3 v4 v5
                obtain ⟨v0, v1, v2, v3, v4, v5⟩ := HV3.out
                simp only at v0 v1 v2 v3 v4 v5
                go_wp2_with fail
                go_ret
                exact ⟨_, rfl, ⟨A3, cap3, rfl, owns_low HP3.out (by have := HX.out.2.1; have := HX.out.2.2; omega)⟩, HK3.out⟩
        ·
          go_wp2_with fail
          refine (HD.out _).mono ?_
          rintro e w' ⟨rfl, hw'⟩
          obtain rfl := hw'.symm
          cases pd
          ·
            go_wp2_with fail
            go_ret
            exact ⟨_, rfl, ⟨A1, cap1, rfl, owns_low HP1.out (by have := HX.out.2.1; have := HX.out.2.2; omega)⟩, HK1.out⟩
          ·
            have HQ1 := Lib.hid (show (w1.alloc (.cells #[.int .i64 d] 3)).ownsRow B 3 1 (.slice A1 1 cap1) 1 (intsL [a]) from HP1.out.alloc _)
            have HS1 := Lib.hid (show B ≤ (w1.alloc (.cells #[.int .i64 d] 3)).heap.size by rw [nblk_alloc]; have := HB1.out; omega)
            have HA1 := Lib.hid ((Keeps.refl (fun _ => False) w1).alloc (.cells #[.int .i64 d] 3))
            have HC1 := Lib.hid (fun j u hj => cells_new w1 [.int .i64 d] 3 j u hj)
            go_wp2_with (at_builtin; go_loud (refine wpList_append_own _ rfl _ _ 84 rfl B 3 i0 _ 1 8 Tryz.underlying84 hi hz0 hz1 hz2 rfl (by decide) (.slice A1 1 cap1) 1 (intsL [a]) rfl HQ1.out ⟨w1.heap.size, 0, none⟩ 1 1 [.int .i64 d] rfl rfl HC1.out (ints_cell d) (by decide) (by decide) HS1.out ?c1))
            case c1 =>
              intro v' w2 hown hgrow hnil
              obtain ⟨A2, cap2, rfl⟩ := owns_slice hown
              have hlt := HQ1.out.lt
              have HW2 := Lib.hid (show Keeps (fun k => B ≤ k) w1 w2 from ((HA1.out.mono (fun _ _ h => h.elim)).grown hgrow (fun k hk _ => (hlt k hk).1)))
              have HK2 := Lib.hid (show Keeps (fun _ => False) w w2 from HK1.out.trans HW2.out (fun b hb h => by have h : B ≤ b := h; have := HX.out.2.1; have := HX.out.2.2; omega))
              have HV2 := Lib.hid (HV1.out.keep HW2.out (by have := HX.out.1; omega))
              have HP2 := Lib.hid (show w2.ownsRow B 3 1 (.slice A2 2 cap2) 2 (intsL [a, d]) from hown)
              have HB2 := Lib.hid (Nat.le_trans HB1.out HW2.out.size)
              clear hown hgrow hnil hlt v0 v1 v2 v3 v4 v5
              obtain ⟨v0, v1, v2, v3, v4, v5⟩ := HV2.out
              simp only at v0 v1 v2 v3 v4 v5
              go_wp2_with fail
              go_ret
              exact ⟨_, rfl, ⟨A2, cap2, rfl, owns_low HP2.out (by have := HX.out.2.1; have := HX.out.2.2; omega)⟩, HK2.out⟩
end Go.Proofs.YtknhfobcejpmeaaGreatDoor
