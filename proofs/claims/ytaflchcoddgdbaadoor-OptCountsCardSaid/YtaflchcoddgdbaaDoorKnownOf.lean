
/- The walk of the reference's KnownOf. -/
import Derived.Test.YtaflchcoddgdbaaDoorIsKnown
import Derived.Deep.RegionHeld3
namespace Go.Proofs.YtaflchcoddgdbaaDoor
open Go.RowKit Go.Deep
set_option linter.unusedVariables false
set_option linter.unusedSimpArgs false

theorem OpsAt.take {w : World} {A : Option Addr} {n cap : Nat} {l : List Ir.Op} (V : OpsAt w A n cap l) (i : Nat) (hi : i ≤ n) : OpsAt w A i cap (l.take i) := by
  obtain ⟨h1, h2, h3⟩ := V
  refine ⟨by rw [List.length_take]; omega, by omega, ?_⟩
  rcases h3 with h3 | ⟨b, o, rfl, hb, hc⟩
  · exact .inl h3
  · refine .inr ⟨b, o, rfl, hb, fun j hj => ?_⟩
    have e : (l.take i).getD j Ir.nop = l.getD j Ir.nop := by
      rw [List.getD_eq_getElem?_getD, List.getD_eq_getElem?_getD, List.getElem?_take_of_lt hj]
    rw [e]
    exact hc j (by omega)
theorem foldable_ck (f : Ir.Facts) (o : Ir.Op) : Ir.foldable f o = if (!Ir.isSum (Ir.kn o.k) || Ir.isDiv (Ir.kn o.k)) = true then false else (Ir.fof f o.a).isSome && (Ir.fof f o.b).isSome := by
  unfold Ir.foldable
  cases Ir.isSum (Ir.kn o.k) <;> cases Ir.isDiv (Ir.kn o.k) <;> simp
theorem range_stepk (p : Nat → Bool) (i : Nat) : (List.range (i + 1)).countP p = (List.range i).countP p + (if p i = true then 1 else 0) := by
  rw [List.range_succ, List.countP_append, List.countP_singleton]
theorem range_lek (p : Nat → Bool) (i : Nat) : (List.range i).countP p ≤ i := by
  have := List.countP_le_length (p := p) (l := List.range i)
  simpa using this
set_option maxHeartbeats 4000000 in
set_option maxRecDepth 100000 in
theorem knownOf_any (A : Option Addr) (n cap : Nat) (l : List Ir.Op) (w : World) (V : OpsAt w A n cap l) (hc : cap ≤ 9223372036854775807) :
    Calls Tryd.prog 20 #[.slice A n cap] w fun e w' => e = .returned (.int .i64 (Ir.known l)) ∧ Keeps (fun _ => False) w w' := by
  have HV := Lib.hid V
  have hn := V.le
  have HL := Lib.hid V.len
  clear V
  go_enter Tryd.func20, Tryd.ntmps20
  go_wp2_with fail
  go_loopw [4, 3] (fun s4 s3 wr => ∃ i : Nat, i ≤ n ∧ s4 = .int .i64 i ∧ s3 = .int .i64 ((List.range i).countP (fun i => Ir.foldable (Ir.factsOf (l.take i)) (l.getD i Ir.nop)) : Nat) ∧ Keeps (fun _ => False) w wr) (fun s4 _ _ => n - (intOf s4).toNat)
  case atStart => exact ⟨0, by omega, rfl, rfl, Keeps.refl _ _⟩
  case round =>
    obtain ⟨i, hi, rfl, rfl, hKi⟩ := hrel
    have HKI := Lib.hid hKi
    have HST := Lib.hid (range_stepk (fun i => Ir.foldable (Ir.factsOf (l.take i)) (l.getD i Ir.nop)) i)
    have hle := range_lek (fun i => Ir.foldable (Ir.factsOf (l.take i)) (l.getD i Ir.nop)) i
    obtain ⟨q, hq⟩ : ∃ q, (List.range i).countP (fun i => Ir.foldable (Ir.factsOf (l.take i)) (l.getD i Ir.nop)) = q := ⟨_, rfl⟩
    rw [hq] at HST hle
    rw [hq]
    have HQ := Lib.hid hq
    clear hq
    by_cases hlt : i < n
    · obtain ⟨bb, oo, rfl, e0, e1, e2, e3, e4, e5⟩ := (HV.out.quiet hKi).get hlt
      have HST2 := Lib.hid (show (List.range (i + 1)).countP (fun i => Ir.foldable (Ir.factsOf (l.take i)) (l.getD i Ir.nop)) = q + (if Ir.foldable (Ir.factsOf (l.take i)) (l.getD i Ir.nop) = true then 1 else 0) from HST.out)
      have HTK := Lib.hid (fun (w' : World) (k : Keeps (fun _ => False) w w') x => isKnown_any _ i cap (l.take i) x w' ((HV.out.quiet k).take i (by omega)) hc)
      obtain ⟨ff, hff⟩ : ∃ ff, Ir.factsOf (l.take i) = ff := ⟨_, rfl⟩
      rw [hff] at HST2 HTK
      clear hff HST hKi
      obtain ⟨op, hop⟩ : ∃ op, l.getD i Ir.nop = op := ⟨_, rfl⟩
      rw [hop] at e0 e1 e2 e3 e4 e5 HST2
      clear hop
      have HFC := Lib.hid (foldable_ck ff op)
      have HD := Lib.hid (fun w => isDiv_any op.k w)
      have HS := Lib.hid (fun w => isSum_any op.k w)
      obtain ⟨fo, hfo⟩ : ∃ b, Ir.foldable ff op = b := ⟨_, rfl⟩
      rw [hfo] at HST2 HFC
      clear hfo
      have HALR := Lib.hid ((Keeps.refl (fun _ => False) wr).alloc (.cells (opC op) 60))
      have HOAR := Lib.hid (OpAt.new wr op 60)
      generalize Ir.isSum (Ir.kn op.k) = ps at *
      generalize Ir.isDiv (Ir.kn op.k) = pd at *
      go_upto_region 6 with fail
      have hal := HALR.out
      have hoa := HOAR.out
      simp only [opC] at hal hoa
      clear HALR HOAR
      generalize wr.alloc _ = wx at *
      generalize wr.heap.size = z at *
      have HKX := Lib.hid (HKI.out.trans hal (fun _ _ h => h))
      have HZX := Lib.hid hoa
      obtain ⟨x0, x1, x2, x3, x4, x5⟩ := hoa
      clear hal e0 e1 e2 e3 e4 e5
      go_wp2_with fail
      refine (HD.out _).mono ?_
      rintro e w2 ⟨rfl, rfl⟩
      go_wp2_with fail
      refine (HS.out _).mono ?_
      rintro e w2a ⟨rfl, rfl⟩
      cases ps
      · have HF := Lib.hid (show fo = false from HFC.out)
        go_wp2_with fail
        go_roundw
        case rel => exact ⟨i + 1, by omega, by go_num, by rw [HST2.out, HF.out]; simp, HKX.out⟩
        case measure => simp [intOf]; omega
      · cases pd
        · have HF := Lib.hid (show fo = ((Ir.fof ff op.a).isSome && (Ir.fof ff op.b).isSome) from HFC.out)
          have HAK := Lib.hid (fun w' k => HTK.out w' k op.a)
          have HBK := Lib.hid (fun w' k => HTK.out w' k op.b)
          generalize (Ir.fof ff op.a).isSome = ia at *
          generalize (Ir.fof ff op.b).isSome = ib at *
          have hic : i ≤ cap := by omega
          go_upto_region 9 with fail
          go_region_held3 (fun w' => Keeps (fun _ => False) w2a w' ∧ w'.cell? ⟨z, 2, none⟩ = some (.int .i64 op.a))
            (first | (refine ⟨?_, ?_⟩ <;> first | ((repeat (first | exact Keeps.refl _ _ | assumption | apply Keeps.drew | apply Keeps.drewN | apply Keeps.alloc | (refine Keeps.trans ?_ (by assumption) (fun _ _ h => h)))); done) | (refine Keeps.cell' (S := fun _ => False) (w := w2a) ?_ (by assumption) (fun f => f); (repeat (first | exact Keeps.refl _ _ | assumption | apply Keeps.drew | apply Keeps.drewN | apply Keeps.alloc | (refine Keeps.trans ?_ (by assumption) (fun _ _ h => h)))); done)) | (trace_state; fail))
            (first | (go_at_call 54; refine (HAK.out _ ?_).mono ?_; (refine HKX.out.trans ?_ (fun _ _ h => h); (repeat (first | exact Keeps.refl _ _ | assumption | apply Keeps.drew | apply Keeps.drewN | apply Keeps.alloc | (refine Keeps.trans ?_ (by assumption) (fun _ _ h => h))))); rintro e w3 ⟨rfl, hk3⟩))
          rename_i hh
          have hkr := hh.1
          have HKX3 := Lib.hid (HKX.out.trans hkr (fun _ _ h => h))
          have HZ3 := Lib.hid (HZX.out.keep hkr (fun h => h))
          clear hh x0 x1 x2 x3 x4 x5 hk3 hkr
          obtain ⟨x0, x1, x2, x3, x4, x5⟩ := HZ3.out
          go_upto_region 10 with fail
          go_region_held3 (fun w' => Keeps (fun _ => False) w3 w' ∧ w'.cell? ⟨z, 3, none⟩ = some (.int .i64 op.b))
            (first | (refine ⟨?_, ?_⟩ <;> first | ((repeat (first | exact Keeps.refl _ _ | assumption | apply Keeps.drew | apply Keeps.drewN | apply Keeps.alloc | (refine Keeps.trans ?_ (by assumption) (fun _ _ h => h)))); done) | (refine Keeps.cell' (S := fun _ => False) (w := w3) ?_ (by assumption) (fun f => f); (repeat (first | exact Keeps.refl _ _ | assumption | apply Keeps.drew | apply Keeps.drewN | apply Keeps.alloc | (refine Keeps.trans ?_ (by assumption) (fun _ _ h => h)))); done)) | (trace_state; fail))
            (first | (go_at_call 54; refine (HBK.out _ ?_).mono ?_; (refine HKX3.out.trans ?_ (fun _ _ h => h); (repeat (first | exact Keeps.refl _ _ | assumption | apply Keeps.drew | apply Keeps.drewN | apply Keeps.alloc | (refine Keeps.trans ?_ (by assumption) (fun _ _ h => h))))); rintro e w4 ⟨rfl, hk4⟩))
          rename_i hh
          have hkr := hh.1
          have HKX4 := Lib.hid (HKX3.out.trans hkr (fun _ _ h => h))
          clear hh x0 x1 x2 x3 x4 x5 hk4 hkr
          cases ia <;> cases ib
          all_goals
            go_wp2_with fail
            go_roundw
            case rel => exact ⟨i + 1, by omega, by go_num, by rw [HST2.out, HF.out]; simp, HKX4.out⟩
            case measure => simp [intOf]; omega
        · have HF := Lib.hid (show fo = false from HFC.out)
          go_wp2_with fail
          go_roundw
          case rel => exact ⟨i + 1, by omega, by go_num, by rw [HST2.out, HF.out]; simp, HKX.out⟩
          case measure => simp [intOf]; omega
    · obtain rfl : i = n := by omega
      have HRE := Lib.hid (show Ir.known l = q by rw [← HQ.out]; unfold Ir.known; rw [HL.out])
      clear hKi
      go_wp2_with fail
      go_ret
      exact ⟨by rw [HRE.out]; rfl, HKI.out⟩
end Go.Proofs.YtaflchcoddgdbaaDoor
