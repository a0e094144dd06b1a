
/- Regions, said plainly: how many instructions are taken; which pages these lie in. No program in sight. -/
import Derived.Test.YtlbdkcnbgdmpaaaDoorCodeDefs
namespace Go.Proofs.YtlbdkcnbgdmpaaaDoor
namespace Fm
/-- where a region ends: K the kinds, last the places that memory has, f the room, n taken so far, s stores so far -/
def go (K : Nat → Nat) (last : Nat) : Nat → Nat → Nat → Nat
  | 0, n, _ => n
  | f + 1, n, s =>
    if last ≤ n ∨ K n = 4 ∨ (K n = 3 ∧ 8 ≤ s) then n
    else if K n = 1 then (if n + 1 < last ∧ 1 ≤ f ∧ K (n + 1) ≠ 1 ∧ K (n + 1) ≠ 4 ∧ ¬ (K (n + 1) = 3 ∧ 8 ≤ s) then n + 2 else n)
    else go K last f (n + 1) (if K n = 3 then s + 1 else s)

theorem go_le (K : Nat → Nat) (last : Nat) : ∀ f n s, n ≤ go K last f n s ∧ go K last f n s ≤ n + f
  | 0, n, s => ⟨Nat.le_refl _, Nat.le_refl _⟩
  | f + 1, n, s => by
    have ih := go_le K last f (n + 1) (if K n = 3 then s + 1 else s)
    unfold go
    split
    · omega
    · split
      · split <;> omega
      · omega
theorem go_last (K : Nat → Nat) (last : Nat) : ∀ f n s, n ≤ last → go K last f n s ≤ last
  | 0, n, s, h => h
  | f + 1, n, s, h => by
    unfold go
    split
    · omega
    · split
      · split <;> omega
      · exact go_last K last f (n + 1) _ (by omega)
theorem go_first (K : Nat → Nat) (last f : Nat) (h : 0 < go K last f 0 0) : K 0 ≠ 4 ∧ 0 < last := by
  cases f with
  | zero => simp [go] at h
  | succ f =>
    unfold go at h
    split at h
    · omega
    · rename_i h2
      exact ⟨fun e => h2 (.inr (.inl e)), by omega⟩
/-- with more room, and fewer stores, it is no shorter -/
theorem go_mono (K K' : Nat → Nat) (last last' : Nat) : ∀ f n s f' n' s', f ≤ f' → s' ≤ s → (∀ k, K' (n' + k) = K (n + k)) → (∀ k, n + k < last ↔ n' + k < last') →
    go K last f n s - n ≤ go K' last' f' n' s' - n'
  | 0, n, s, f', n', s', _, _, _, _ => by simp [go]
  | f + 1, n, s, 0, n', s', h, _, _, _ => by omega
  | f + 1, n, s, f' + 1, n', s', hf, hs, hK, hl => by
    have k0 : K' n' = K n := hK 0
    have k1 : K' (n' + 1) = K (n + 1) := hK 1
    have l0 : n < last ↔ n' < last' := hl 0
    have l1 : n + 1 < last ↔ n' + 1 < last' := hl 1
    have ih := go_mono K K' last last' f (n + 1) (if K n = 3 then s + 1 else s) f' (n' + 1) (if K n = 3 then s' + 1 else s') (by omega) (by split <;> omega)
      (fun k => by have := hK (1 + k); rw [Nat.add_assoc, Nat.add_assoc]; exact this) (fun k => by have := hl (1 + k); rw [Nat.add_assoc, Nat.add_assoc]; exact this)
    have b1 := go_le K last f (n + 1) (if K n = 3 then s + 1 else s)
    have b2 := go_le K' last' f' (n' + 1) (if K n = 3 then s' + 1 else s')
    rw [go, go, k0, k1]
    by_cases c1 : last ≤ n ∨ K n = 4 ∨ (K n = 3 ∧ 8 ≤ s)
    · rw [if_pos c1]; omega
    · rw [if_neg c1, if_neg (show ¬ (last' ≤ n' ∨ K n = 4 ∨ (K n = 3 ∧ 8 ≤ s')) by omega)]
      by_cases c2 : K n = 1
      · rw [if_pos c2, if_pos c2]
        by_cases c3 : n + 1 < last ∧ 1 ≤ f ∧ K (n + 1) ≠ 1 ∧ K (n + 1) ≠ 4 ∧ ¬ (K (n + 1) = 3 ∧ 8 ≤ s)
        · rw [if_pos c3, if_pos (show n' + 1 < last' ∧ 1 ≤ f' ∧ K (n + 1) ≠ 1 ∧ K (n + 1) ≠ 4 ∧ ¬ (K (n + 1) = 3 ∧ 8 ≤ s') by omega)]
          omega
        · rw [if_neg c3]; omega
      · rw [if_neg c2, if_neg c2]; omega
/-- where the lesser room ends the greater goes by -/
theorem go_cut (K : Nat → Nat) (last : Nat) : ∀ f n s f', f ≤ f' → go K last f n s < go K last f' n s → ∃ s1, go K last f' n s = go K last (f' - (go K last f n s - n)) (go K last f n s) s1
  | 0, n, s, f', _, _ => ⟨s, by simp [go]⟩
  | f + 1, n, s, 0, h, _ => by omega
  | f + 1, n, s, f' + 1, hf, hlt => by
    have ih := go_cut K last f (n + 1) (if K n = 3 then s + 1 else s) f' (by omega)
    have b1 := go_le K last f (n + 1) (if K n = 3 then s + 1 else s)
    by_cases c1 : last ≤ n ∨ K n = 4 ∨ (K n = 3 ∧ 8 ≤ s)
    · rw [go, if_pos c1, go, if_pos c1] at hlt
      omega
    · by_cases c2 : K n = 1
      · by_cases c3 : n + 1 < last ∧ 1 ≤ f ∧ K (n + 1) ≠ 1 ∧ K (n + 1) ≠ 4 ∧ ¬ (K (n + 1) = 3 ∧ 8 ≤ s)
        · rw [go, if_neg c1, if_pos c2, if_pos c3, go, if_neg c1, if_pos c2, if_pos (show n + 1 < last ∧ 1 ≤ f' ∧ K (n + 1) ≠ 1 ∧ K (n + 1) ≠ 4 ∧ ¬ (K (n + 1) = 3 ∧ 8 ≤ s) by omega)] at hlt
          omega
        · have e : go K last (f + 1) n s = n := by rw [go, if_neg c1, if_pos c2, if_neg c3]
          rw [e]
          exact ⟨s, by rw [Nat.sub_self, Nat.sub_zero]⟩
      · have e1 : go K last (f + 1) n s = go K last f (n + 1) (if K n = 3 then s + 1 else s) := by rw [go, if_neg c1, if_neg c2]
        have e2 : go K last (f' + 1) n s = go K last f' (n + 1) (if K n = 3 then s + 1 else s) := by rw [go, if_neg c1, if_neg c2]
        rw [e1, e2] at hlt
        rw [e1, e2]
        obtain ⟨s1, h1⟩ := ih hlt
        refine ⟨s1, ?_⟩
        rw [h1, show f' + 1 - (go K last f (n + 1) (if K n = 3 then s + 1 else s) - n) = f' - (go K last f (n + 1) (if K n = 3 then s + 1 else s) - (n + 1)) by omega]
theorem go_more (K : Nat → Nat) (last f f' : Nat) (h : f ≤ f') : go K last f 0 0 ≤ go K last f' 0 0 := by
  have := go_mono K K last last f 0 0 f' 0 0 h (Nat.le_refl _) (fun _ => rfl) (fun _ => Iff.rfl)
  omega
/-- what is left is what begins there -/
theorem go_joins (K : Nat → Nat) (last f f' : Nat) (h : f ≤ f') (hlt : go K last f 0 0 < go K last f' 0 0) :
    go K last f' 0 0 - go K last f 0 0 ≤ go (fun k => K (go K last f 0 0 + k)) (last - go K last f 0 0) f' 0 0 := by
  obtain ⟨s1, e⟩ := go_cut K last f 0 0 f' h hlt
  have := go_mono K (fun k => K (go K last f 0 0 + k)) last (last - go K last f 0 0) (f' - (go K last f 0 0 - 0)) (go K last f 0 0) s1 f' 0 0 (by omega) (Nat.zero_le _) (fun k => by simp) (fun k => by omega)
  rw [← e] at this
  omega

/-- the pages of n instructions from a place on -/
def pages (pc n : Nat) : List Nat := if n = 0 then [] else List.range' (pc / 256) ((pc + 4 * (n - 1)) / 256 - pc / 256 + 1)
theorem pages_zero (pc : Nat) : pages pc 0 = [] := rfl
theorem pages_step (pc n : Nat) : pages pc (n + 1) = if (pc + 4 * n) / 256 ∈ pages pc n then pages pc n else pages pc n ++ [(pc + 4 * n) / 256] := by
  unfold pages
  rw [if_neg (by omega)]
  by_cases h : n = 0
  · subst h
    simp
  · rw [if_neg h]
    by_cases hp : (pc + 4 * n) / 256 = (pc + 4 * (n - 1)) / 256
    · rw [if_pos (by rw [List.mem_range'_1]; omega)]
      congr 1
      omega
    · rw [if_neg (by rw [List.mem_range'_1]; omega)]
      have e : (pc + 4 * (n + 1 - 1)) / 256 - pc / 256 + 1 = ((pc + 4 * (n - 1)) / 256 - pc / 256 + 1) + 1 := by omega
      rw [e, List.range'_concat]
      congr 2
      omega
theorem pages_len (pc n : Nat) (h : n ≤ 24) : (pages pc n).length ≤ 2 := by
  unfold pages
  split
  · simp
  · rw [List.length_range']; omega
end Fm
end Go.Proofs.YtlbdkcnbgdmpaaaDoor
