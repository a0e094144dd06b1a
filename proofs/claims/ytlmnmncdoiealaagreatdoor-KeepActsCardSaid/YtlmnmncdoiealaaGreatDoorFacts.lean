
/- What is known of registers, as a map lies; the walks of Writes, WriteOf, of, learn, foldable. -/
import Derived.Test.YtlmnmncdoiealaaGreatDoorIrOps
import Derived.Test.YtlmnmncdoiealaaGreatDoorOptDefs
import Derived.Maps.OwnSet
namespace Go.Proofs.YtlmnmncdoiealaaGreatDoor
open Go.RowKit Go.Deep
set_option linter.unusedVariables false
set_option linter.unusedSimpArgs false

def i64R (n : Int) : Prop := -9223372036854775808 ≤ n ∧ n ≤ 9223372036854775807
def u32R (n : Int) : Prop := 0 ≤ n ∧ n ≤ 4294967295
/-- the ranges of an op's numbers -/
structure OpOk (o : Ir.Op) : Prop where
  d : i64R o.d
  a : i64R o.a
  b : i64R o.b
  imm : u32R o.imm
  at_ : i64R o.at_
theorem wf_i {n : Int} (h : i64R n) : (Lit.int .i64 n).wf = true := WalkArith.wf_i64 h
theorem wf_u {n : Int} (h : u32R n) : (Lit.int .u32 n).wf = true := by
  have e1 : IntKind.u32.min = 0 := by decide
  have e2 : IntKind.u32.max = 4294967295 := by decide
  show (decide (IntKind.u32.min ≤ n) && decide (n ≤ IntKind.u32.max)) = true
  rw [e1, e2]
  unfold u32R at h
  simp [h]
theorem mapK : Maps.Keyed Tryz.prog 3 := Maps.int_keyed Tryz.underlying3
theorem zeroU (w : World) : (zeroValue 34).run Tryz.prog w = .ok (.int .u32 0) w := by kernel_rfl
/-- A MAP OF FACTS -/
def FactsAt (w : World) (b n : Nat) (f : Ir.Facts) : Prop := ∃ D : DataW Unit, w.ownsMap Tryz.prog 3 (plainElem Tryz.prog 34) b n D ∧
  ∀ k, i64R k → Maps.has D (.int .i64 k) = (f k).isSome ∧ ∀ v, f k = some v → D.atKey (.int .i64 k) (.lit (.int .u32 0)) = .lit (.int .u32 v)
theorem FactsAt.keep {S : Nat → Prop} {w w' : World} {b n : Nat} {f : Ir.Facts} (F : FactsAt w b n f) (k : Keeps S w w') (h : ¬ S b) : FactsAt w' b n f := by
  obtain ⟨D, ⟨es, c, hb, hf, hs, hd⟩, hD⟩ := F
  exact ⟨D, ⟨es, c, k.map hb h, hf, hs, hd⟩, hD⟩
theorem FactsAt.lt {w : World} {b n : Nat} {f : Ir.Facts} (F : FactsAt w b n f) : b < w.heap.size := by
  obtain ⟨D, h, _⟩ := F
  exact h.lt
theorem facts_made (w : World) : FactsAt (w.alloc (.map #[] 0)) w.heap.size 0 Ir.none0 :=
  ⟨.map [], World.ownsMap_made w _ _ _, fun k hk => ⟨rfl, fun v hv => by cases hv⟩⟩

theorem lit_ne {a b : Int} (h : a ≠ b) : (Lit.int .i64 a) ≠ (Lit.int .i64 b) := fun e => h (by injection e)
theorem key_lit (a : Int) : WideAt.IsKeyLit (.int .i64 a) := by first | trivial | (unfold WideAt.IsKeyLit; trivial) | exact ⟨_, _, rfl⟩
theorem facts_del {w' : World} {b n : Nat} {f : Ir.Facts} {D : DataW Unit} {d : Int} (hd : i64R d) (hD : ∀ k, i64R k → Maps.has D (.int .i64 k) = (f k).isSome ∧ ∀ v, f k = some v → D.atKey (.int .i64 k) (.lit (.int .u32 0)) = .lit (.int .u32 v))
    (h : w'.ownsMap Tryz.prog 3 (plainElem Tryz.prog 34) b n (D.del (.int .i64 d))) : FactsAt w' b n (fun k => if k = d then none else f k) := by
  refine ⟨_, h, fun k hk => ?_⟩
  by_cases e : k = d
  · subst e
    simp only [if_true]
    exact ⟨Maps.has_del_same, fun v hv => by cases hv⟩
  · simp only [if_neg e]
    rw [Maps.has_del_other (lit_ne e), Maps.atKey_del_other (lit_ne e)]
    exact hD k hk
theorem facts_put {w' : World} {b n : Nat} {f : Ir.Facts} {D : DataW Unit} {d v : Int} (hM : Maps.IsMap D) (hD : ∀ k, i64R k → Maps.has D (.int .i64 k) = (f k).isSome ∧ ∀ v, f k = some v → D.atKey (.int .i64 k) (.lit (.int .u32 0)) = .lit (.int .u32 v))
    (h : w'.ownsMap Tryz.prog 3 (plainElem Tryz.prog 34) b n (D.put (.int .i64 d) (.lit (.int .u32 v)))) : FactsAt w' b n (fun k => if k = d then some v else f k) := by
  refine ⟨_, h, fun k hk => ?_⟩
  by_cases e : k = d
  · subst e
    simp only [if_true]
    refine ⟨Maps.has_put_same hM (key_lit _) _, fun u hu => ?_⟩
    rw [Maps.atKey_put_same hM (key_lit _)]
    injection hu with hu
    rw [hu]
  · simp only [if_neg e]
    rw [Maps.has_put_other (lit_ne e), Maps.atKey_put_other (lit_ne e)]
    exact hD k hk
theorem writes_c (o : Ir.Op) : Ir.writes o = if ((Ir.kn o.k == 1 || Ir.kn o.k == 2) || Ir.kn o.k == 5) || Ir.isSum (Ir.kn o.k) then o.d else 0 := by
  unfold Ir.writes
  have : (Ir.hasD (Ir.kn o.k) && decide (Ir.kn o.k ≠ 6)) = (((Ir.kn o.k == 1 || Ir.kn o.k == 2) || Ir.kn o.k == 5) || Ir.isSum (Ir.kn o.k)) := by
    have hle := Ir.kn_le o.k
    generalize Ir.kn o.k = c at *
    have key : ∀ c : Fin 28, (Ir.hasD c.val && decide (c.val ≠ 6)) = (((c.val == 1 || c.val == 2) || c.val == 5) || Ir.isSum c.val) := by decide +kernel
    exact key ⟨c, by omega⟩
  rw [this]
set_option maxHeartbeats 2000000 in
set_option maxRecDepth 100000 in
theorem writes_any (o : Ir.Op) (w : World) :
    Calls Tryz.prog 68 #[.agg (opC o)] w fun e w' => e = .returned (.int .i64 (Ir.writes o)) ∧ Keeps (fun _ => False) w w' := by
  have hr := writes_c o
  obtain ⟨r, hr0⟩ : ∃ r, Ir.writes o = r := ⟨_, rfl⟩
  rw [hr0] at hr ⊢
  clear hr0
  obtain ⟨k, d, a, b, im, t⟩ := o
  simp only at hr
  have h1 := is_set k
  have h2 := is_copy k
  have h5 := is_load k
  have HS := Lib.hid (fun w => sum_any k w)
  have HK := Lib.hid ((Keeps.refl (fun _ => False) w).alloc (.cells (opC ⟨k, d, a, b, im, t⟩) 64))
  simp only [opC] at HK
  generalize Ir.isSum (Ir.kn k) = ps at *
  generalize (Ir.kn k == 1) = p1 at *
  generalize (Ir.kn k == 2) = p2 at *
  generalize (Ir.kn k == 5) = p5 at *
  unfold opC
  cases p1
  · cases p2
    · cases p5
      · cases ps
        · have HR := Lib.hid (show r = 0 from hr)
          clear hr
          go_enter Tryz.func68, Tryz.ntmps68
          go_wp2_with fail
          refine (HS.out _).mono ?_
          rintro e w' ⟨rfl, rfl⟩
          go_wp2_with fail
          go_ret
          exact ⟨by rw [HR.out]; rfl, HK.out⟩
        · have HR := Lib.hid (show r = d from hr)
          clear hr
          go_enter Tryz.func68, Tryz.ntmps68
          go_wp2_with fail
          refine (HS.out _).mono ?_
          rintro e w' ⟨rfl, rfl⟩
          go_wp2_with fail
          go_ret
          exact ⟨by rw [HR.out]; rfl, HK.out⟩
      all_goals
        have HR := Lib.hid (show r = d from hr)
        clear hr
        go_enter Tryz.func68, Tryz.ntmps68
        go_wp2_with fail
        go_ret
        exact ⟨by rw [HR.out]; rfl, HK.out⟩
    all_goals
      have HR := Lib.hid (show r = d from hr)
      clear hr
      go_enter Tryz.func68, Tryz.ntmps68
      go_wp2_with fail
      go_ret
      exact ⟨by rw [HR.out]; rfl, HK.out⟩
  all_goals
    have HR := Lib.hid (show r = d from hr)
    clear hr
    go_enter Tryz.func68, Tryz.ntmps68
    go_wp2_with fail
    go_ret
    exact ⟨by rw [HR.out]; rfl, HK.out⟩
theorem writeOf_c (o : Ir.Op) : Ir.writes o = if hasL (Ir.kn o.k) 68 && !(Ir.kn o.k == 6) then o.d else 0 := by
  unfold Ir.writes
  have : (Ir.hasD (Ir.kn o.k) && decide (Ir.kn o.k ≠ 6)) = (hasL (Ir.kn o.k) 68 && !(Ir.kn o.k == 6)) := by
    rw [show hasL (Ir.kn o.k) 68 = Ir.hasD (Ir.kn o.k) from rfl, nat_beq]
    simp
  rw [this]
set_option maxHeartbeats 2000000 in
set_option maxRecDepth 100000 in
theorem writeOf_any (o : Ir.Op) (w : World) :
    Calls Tryz.prog 46 #[.agg (opC o)] w fun e w' => e = .returned (.int .i64 (Ir.writes o)) ∧ Keeps (fun _ => False) w w' := by
  have hr := writeOf_c o
  obtain ⟨r, hr0⟩ : ∃ r, Ir.writes o = r := ⟨_, rfl⟩
  rw [hr0] at hr ⊢
  clear hr0
  obtain ⟨k, d, a, b, im, t⟩ := o
  simp only at hr
  have h6 := is_store k
  have HF := Lib.hid (fun w => fieldsOf_any k w)
  have HI := Lib.hid (fun w => isOf_fields (Ir.kn k) (Ir.kn_le k) 68 (.inl rfl) w)
  have HK := Lib.hid ((Keeps.refl (fun _ => False) w).alloc (.cells (opC ⟨k, d, a, b, im, t⟩) 64))
  simp only [opC] at HK
  generalize hasL (Ir.kn k) 68 = pd at *
  generalize (Ir.kn k == 6) = p6 at *
  generalize fieldsB (Ir.kn k) = fb at *
  have h6n : (k.toList != [115, 116, 111, 114, 101]) = !p6 := by rw [bne, h6]
  unfold opC
  cases pd
  · have HR := Lib.hid (show r = 0 from hr)
    clear hr
    go_enter Tryz.func46, Tryz.ntmps46
    go_wp2_with fail
    refine (HF.out _).mono ?_
    rintro e w' ⟨rfl, rfl⟩
    go_wp2_with fail
    refine (HI.out _).mono ?_
    rintro e w' ⟨rfl, rfl⟩
    go_wp2_with fail
    go_ret
    exact ⟨by rw [HR.out]; rfl, HK.out⟩
  · cases p6
    · have HR := Lib.hid (show r = d from hr)
      clear hr
      go_enter Tryz.func46, Tryz.ntmps46
      go_wp2_with fail
      refine (HF.out _).mono ?_
      rintro e w' ⟨rfl, rfl⟩
      go_wp2_with fail
      refine (HI.out _).mono ?_
      rintro e w' ⟨rfl, rfl⟩
      go_wp2_with fail
      go_ret
      exact ⟨by rw [HR.out]; rfl, HK.out⟩
    · have HR := Lib.hid (show r = 0 from hr)
      clear hr
      go_enter Tryz.func46, Tryz.ntmps46
      go_wp2_with fail
      refine (HF.out _).mono ?_
      rintro e w' ⟨rfl, rfl⟩
      go_wp2_with fail
      refine (HI.out _).mono ?_
      rintro e w' ⟨rfl, rfl⟩
      go_wp2_with fail
      go_ret
      exact ⟨by rw [HR.out]; rfl, HK.out⟩
end Go.Proofs.YtlmnmncdoiealaaGreatDoor
