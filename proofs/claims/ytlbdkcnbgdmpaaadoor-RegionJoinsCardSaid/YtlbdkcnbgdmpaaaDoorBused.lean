
/- The walk of bused. -/
import Derived.Test.YtlbdkcnbgdmpaaaDoorBusView
namespace Go.Proofs.YtlbdkcnbgdmpaaaDoor
open Go.RowKit Go.Deep
set_option linter.unusedVariables false

theorem owns_some {w : World} {base : Nat} {e : TypeId} {size : Nat} {v : Value} {n : Nat} {xs : List Value} (h : w.ownsRow base e size v n xs) (hn : 0 < n) :
    ∃ g cap, v = .slice (some ⟨g, 0, none⟩) n cap ∧ base ≤ g ∧ n ≤ cap ∧ cap ≤ maxLen ∧ ∀ j u, xs[j]? = some u → w.cell? ⟨g, j, none⟩ = some u := by
  have hc := fun g j u => World.ownsRow.cells h (g := g) (j := j) (u := u)
  rcases h.2 with ⟨h3, h4⟩ | ⟨g, cp, cur, h3, h5, h6, h7, h8, _⟩
  · omega
  · refine ⟨g, cp, h3, h5, h7, h8, fun j u hu => ?_⟩
    have := hc g j u (by rw [h3]; rfl) hu
    rwa [Addr.add_lit, Nat.zero_add] at this

end Go.Proofs.YtlbdkcnbgdmpaaaDoor
