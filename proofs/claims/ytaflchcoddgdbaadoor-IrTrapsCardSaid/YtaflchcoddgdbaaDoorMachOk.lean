/- A machine stays in its ranges. -/
import Derived.Test.YtaflchcoddgdbaaDoorMach4
import Derived.Test.YtaflchcoddgdbaaDoorFoldL
namespace Go.Proofs.YtaflchcoddgdbaaDoor
open Go.RowKit Go.Deep
set_option linter.unusedVariables false
set_option linter.unusedSimpArgs false

theorem wide_rng {v n : Int} {s : Bool} (h : 0 ≤ v ∧ v < 4294967296) : 0 ≤ Wd.wide v n s ∧ Wd.wide v n s < 4294967296 := by
  unfold Wd.wide
  split
  · exact h
  · have h1 : 0 ≤ v % 2 ^ n.toNat := Int.emod_nonneg _ (Int.ne_of_gt (Int.pow_pos (by omega)))
    have h2 : v % 2 ^ n.toNat ≤ v := by
      have h3 := Int.mul_ediv_add_emod v (2 ^ n.toNat)
      have h4 : 0 ≤ (2 : Int) ^ n.toNat * (v / 2 ^ n.toNat) := Int.mul_nonneg (Int.le_of_lt (Int.pow_pos (by omega))) (Int.ediv_nonneg h.1 (Int.le_of_lt (Int.pow_pos (by omega))))
      omega
    split <;> omega
theorem quo_rng {a b : Int} {s : Bool} (ha : 0 ≤ a ∧ a < 4294967296) (hb : 0 ≤ b ∧ b < 4294967296) : 0 ≤ Wd.quo a b s ∧ Wd.quo a b s < 4294967296 := by
  unfold Wd.quo
  split
  · omega
  · split
    · omega
    · have h1 : 0 ≤ a / b := Int.ediv_nonneg ha.1 hb.1
      have h2 : a / b ≤ a := Int.ediv_le_self _ ha.1
      omega
theorem rst_rng {a b : Int} {s : Bool} (ha : 0 ≤ a ∧ a < 4294967296) (hb : 0 ≤ b ∧ b < 4294967296) : 0 ≤ Wd.rst a b s ∧ Wd.rst a b s < 4294967296 := by
  unfold Wd.rst
  split
  · omega
  · split
    · omega
    · have h1 : 0 ≤ a % b := Int.emod_nonneg _ (by assumption)
      have h2 : a % b < b := Int.emod_lt_of_pos _ (by omega)
      omega
theorem value_rng (c : Nat) {a b d : Int} (ha : 0 ≤ a ∧ a < 4294967296) (hb : 0 ≤ b ∧ b < 4294967296) (hd : 0 ≤ d ∧ d < 4294967296) : 0 ≤ Ir.value c a b d ∧ Ir.value c a b d < 4294967296 := by
  unfold Ir.value
  split
  · split
    · exact hd
    · split
      · exact quo_rng ha hb
      · exact rst_rng ha hb
  · exact sumsV_rng c ha hb
theorem loadV_rng {m : Nat → Int} (hm : ∀ j, j < 16384 → 0 ≤ m j ∧ m j < 256) (ws : List Ir.Wt) {ad b : Int} (h0 : 0 ≤ ad) (h : rightC ad b.natAbs = 0) : 0 ≤ Ir.loadV m ws ad b ∧ Ir.loadV m ws ad b < 4294967296 := by
  obtain ⟨hn, hal, hlt⟩ := rightC_ok h
  have hn3 : b.natAbs = 1 ∨ b.natAbs = 2 ∨ b.natAbs = 4 := by omega
  unfold Ir.loadV
  refine wide_rng ?_
  have hfit : ad + b.natAbs ≤ 16384 := by
    generalize b.natAbs = n at *
    rcases hn3 with rfl | rfl | rfl <;> omega
  have h1 := be_rng (Ir.pend m ws) ad.toNat b.natAbs (fun j hj => pend_rng hm ws _ (by omega))
  have h2 : (256 : Int) ^ b.natAbs ≤ 4294967296 := by rcases hn3 with h3 | h3 | h3 <;> rw [h3] <;> decide
  exact ⟨h1.1, Int.lt_of_lt_of_le h1.2 h2⟩
theorem setX_ok {W : Int → Bool} {c : Ir.Mc} (h : Ir.McOk W c) (d : Int) {v : Int} (hv : 0 ≤ v ∧ v < 4294967296) : Ir.McOk W { c with X := Ir.setX c.X d v } := by
  refine ⟨fun k hk => ?_, h.ws⟩
  show 0 ≤ Ir.setX c.X d v k ∧ Ir.setX c.X d v k < 4294967296
  unfold Ir.setX
  split
  · exact hv
  · exact h.X k hk
theorem rg_ok {W : Int → Bool} {c : Ir.Mc} (h : Ir.McOk W c) {n : Int} (hn : 0 ≤ n ∧ n < 64) : 0 ≤ Ir.rg c.X n ∧ Ir.rg c.X n < 4294967296 := h.X _ (by omega)
theorem doOp_ok {m : Nat → Int} (hm : ∀ j, j < 16384 → 0 ≤ m j ∧ m j < 256) {W : Int → Bool} {c c' : Ir.Mc} {o : Ir.Op} (h : Ir.McOk W c) (hi : Ir.OpIn o) (hnl : Ir.leaves (Ir.kn o.k) = false) (hd : Ir.doOp m W c o = some c') : Ir.McOk W c' ∧ c'.ws.length ≤ c.ws.length + 1 := by
  have ha := rg_ok h hi.a
  have hle := Ir.kn_le o.k
  unfold Ir.leaves at hnl
  have hnl := of_decide_eq_false hnl
  have hk := hi.k
  unfold Ir.doOp at hd
  split at hd
  · injection hd with hd; subst hd
    exact ⟨setX_ok h _ hi.imm, by simp⟩
  split at hd
  · injection hd with hd; subst hd
    exact ⟨setX_ok h _ ha, by simp⟩
  split at hd
  · split at hd
    · cases hd
    · injection hd with hd; subst hd
      exact ⟨h, by simp⟩
  split at hd
  · split at hd
    · rename_i h5
      injection hd with hd; subst hd
      exact ⟨setX_ok h _ (loadV_rng hm c.ws (by unfold Ir.adr; omega) h5), by simp⟩
    · cases hd
  rename_i h5
  have hb := rg_ok h (hi.b h5)
  split at hd
  · split at hd
    · rename_i h6 h7
      injection hd with hd; subst hd
      refine ⟨⟨h.X, fun s hs => ?_⟩, by simp⟩
      rcases List.mem_append.1 hs with hs | hs
      · exact h.ws s hs
      · simp only [List.mem_singleton] at hs
        subst hs
        exact ⟨h7.1, by show 0 ≤ Ir.adr _ _; unfold Ir.adr; omega, hb, h7.2⟩
    · cases hd
  · injection hd with hd; subst hd
    have hd1 := hi.d (by omega)
    exact ⟨setX_ok h _ (value_rng _ ha hb (rg_ok h (by omega))), by simp⟩
end Go.Proofs.YtaflchcoddgdbaaDoor
