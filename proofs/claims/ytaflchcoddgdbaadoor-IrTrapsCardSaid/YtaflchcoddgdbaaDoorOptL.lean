/- Of better codes, what the walks need: ranges, and what Opt answers. -/
import Derived.Test.YtaflchcoddgdbaaDoorFoldL
import Derived.Test.YtaflchcoddgdbaaDoorSweepL
import Derived.Test.YtaflchcoddgdbaaDoorIrCheck
namespace Go.Proofs.YtaflchcoddgdbaaDoor
open Go.RowKit Go.Deep
set_option linter.unusedVariables false
set_option linter.unusedSimpArgs false

theorem regs_b {o : Ir.Op} {many : Int} (h : Ir.opErr o many = 0) (hs : Ir.isSum (Ir.kn o.k) = true) : 0 ≤ o.b ∧ o.b < 64 := by
  unfold Ir.opErr at h
  split at h
  · cases h
  split at h
  · cases h
  rename_i h2
  rw [Bool.not_eq_false] at h2
  simp only [Bool.and_eq_true, decide_eq_true_eq] at h2
  obtain ⟨⟨⟨h3, h4⟩, h5⟩, h6⟩ := h2
  unfold Ir.regs at h3
  simp only [Bool.and_eq_true, Bool.or_eq_true, decide_eq_true_eq, Bool.not_eq_true'] at h3
  unfold Ir.isSum at hs
  have hs := of_decide_eq_true hs
  rcases h3.2 with (h7 | h7) | h7
  · unfold Ir.hasB at h7
    simp at h7
    omega
  · omega
  · exact h7
theorem ops_ok_good {many : Int} {l : List Ir.Op} (h : Ir.Good many l) (hok : ∀ o ∈ l, OpOk o) : OpsOk l := by
  refine ⟨hok, fun o ho hs => ?_⟩
  obtain ⟨i, hi, rfl⟩ := List.getElem_of_mem ho
  have h1 := (Ir.errAt_zero.1 (h.each i hi)).1
  rw [List.getD_eq_getElem?_getD, List.getElem?_eq_getElem hi] at h1
  exact regs_b h1 hs
theorem fold_ops_ok {l : List Ir.Op} (h : OpsOk l) : ∀ o ∈ Ir.fold l, OpOk o := by
  intro o ho
  obtain ⟨i, hi, rfl⟩ := List.getElem_of_mem ho
  have hl := Ir.fold_len l
  have e := Ir.fold_at l i (by omega)
  rw [List.getD_eq_getElem?_getD, List.getElem?_eq_getElem hi] at e
  simp only [Option.getD_some] at e
  rw [e]
  exact foldOp_ok (facts_u l h i (by omega)) (h.ok _ (getD_mem (by omega)))
theorem sweepGo_mem : ∀ (n : Nat) (l : List Ir.Op), ∀ o ∈ Ir.sweepGo n l, o ∈ l
  | 0, _, _, h => h
  | n + 1, l, o, h => by
    unfold Ir.sweepGo at h
    split at h
    · rename_i i hi
      exact (List.eraseIdx_sublist l i).subset (sweepGo_mem n _ o h)
    · exact h
theorem opt_ops_ok {l : List Ir.Op} (h : OpsOk l) (v : Int) : ∀ o ∈ Ir.opt l v, OpOk o := by
  unfold Ir.opt
  split
  · exact h.ok
  · split
    · exact fold_ops_ok h
    · exact fun o ho => fold_ops_ok h o (sweepGo_mem _ _ o ho)
/-- what is wrong of a code and a level -/
def Ir.optFault (many : Int) (l : List Ir.Op) (level : Int) : Nat × Int := if (Ir.fault many l).1 ≠ 0 then Ir.fault many l else if level < 0 ∨ 2 < level then (2, -1) else (0, -1)
/-- WHAT Opt ANSWERS: a code, and an error -/
def OptIs (w : World) (ea : Nat → Addr) (pc many : Int) (l : List Ir.Op) (level : Int) (cv ev : Value) : Prop :=
  FaultIs w ea (Ir.optFault many l level) ev ∧
  (((Ir.optFault many l level).1 ≠ 0 ∧ cv = .agg #[.int .u32 0, .int .i64 0, .slice none 0 0]) ∨
   ((Ir.optFault many l level).1 = 0 ∧ ∃ A cap, cv = .agg #[.int .u32 pc, .int .i64 many, .slice A (Ir.opt l level).length cap] ∧ OpsAt w A (Ir.opt l level).length cap (Ir.opt l level) ∧ cap ≤ 9223372036854775807))
theorem OptIs.keep {w w' : World} {ea : Nat → Addr} {pc many : Int} {l : List Ir.Op} {level : Int} {cv ev : Value} (h : OptIs w ea pc many l level cv ev) (k : Keeps (fun _ => False) w w') : OptIs w' ea pc many l level cv ev := by
  obtain ⟨h1, h2⟩ := h
  refine ⟨h1.keep k, ?_⟩
  rcases h2 with h2 | ⟨h2, A, cap, h3, h4, h5⟩
  · exact .inl h2
  · exact .inr ⟨h2, A, cap, h3, h4.quiet k, h5⟩
end Go.Proofs.YtaflchcoddgdbaaDoor
