/- The walk of bused. -/
import Derived.Test.YtchleihlnpplkaaDoorBusView
namespace Go.Proofs.YtchleihlnpplkaaDoor
open Go.RowKit Go.Deep
set_option linter.unusedVariables false

theorem owns_some {w : World} {base : Nat} {e : TypeId} {size : Nat} {v : Value} {n : Nat} {xs : List Value} (h : w.ownsRow base e size v n xs) (hn : 0 < n) :
    ∃ g cap, v = .slice (some ⟨g, 0, none⟩) n cap ∧ base ≤ g ∧ n ≤ cap ∧ cap ≤ maxLen ∧ ∀ j u, xs[j]? = some u → w.cell? ⟨g, j, none⟩ = some u := by
  have hc := fun g j u => World.ownsRow.cells h (g := g) (j := j) (u := u)
  rcases h.2 with ⟨h3, h4⟩ | ⟨g, cp, cur, h3, h5, h6, h7, h8, _⟩
  · omega
  · refine ⟨g, cp, h3, h5, h7, h8, fun j u hu => ?_⟩
    have := hc g j u (by rw [h3]; rfl) hu
    rwa [Addr.add_lit, Nat.zero_add] at this

set_option maxRecDepth 100000 in
set_option maxHeartbeats 2000000 in
theorem bused_any (w : World) :
    Calls Tryd.prog 16 #[] w fun e w' => e = .returned (.bool true) ∧ Keeps (fun _ => False) w w' := by
  go_enter Tryd.func16, Tryd.ntmps16
  go_wp2_with fail
  refine (busNew_any 0 0 none w (fun _ => 0) ⟨Nat.le_refl _, .inl rfl⟩ (by omega) (fun i h => absurd h (Nat.not_lt_zero _))).mono ?_
  rintro e w1 ⟨b, r, pb, pw, ph, rfl, hN⟩
  have hB := hN.bus
  have hbn := hN.new
  have hK1 := hN.keeps
  clear hN
  go_wp2_with fail
  refine (bstore_con b r _ 0 [] 0 _ 0 [] 65 9 w1 hB (by omega) (by omega) (by omega)).mono ?_
  rintro e w2 ⟨rfl, ov, tv, B2, _, _, hk2⟩
  have hK2 : Keeps (fun _ => False) w w2 := Keeps.trans hK1 hk2 (fun k hk h => by
    rcases h with h | h | h
    · omega
    · cases h
    · cases h)
  have hob : [] ++ [Value.int .u8 (65 % 256)] = byteVals [65] := by simp [byteVals]
  rw [hob] at B2
  have hone : oneCells ([] ++ accC 9 true 65536 65) := by intro u hu; simp [accC] at hu; rcases hu with rfl | rfl | rfl | rfl <;> rfl
  clear hB hK1 hk2 hob
  go_wp2_with fail
  refine (output_any b r _ _ _ _ _ _ _ w2 B2).mono ?_
  rintro e w' ⟨rfl, rfl⟩
  go_wp2_with fail
  refine (trace_any b r _ _ _ _ _ _ _ w2 B2 (by omega) hone).mono ?_
  rintro e w3 ⟨v3, rfl, ho3, hk3⟩
  obtain ⟨A3, cap3, rfl⟩ := owns_slice ho3
  have B3 := B2.keep hk3 (fun h => h) (fun _ _ h => h) (fun _ _ h => h)
  go_wp2_with fail
  refine (trace_any b r _ _ _ _ _ _ _ w3 B3 (by omega) hone).mono ?_
  rintro e w4 ⟨v4, rfl, ho4, hk4⟩
  obtain ⟨g, cap4, rfl, _, hc1, hc2, hcell⟩ := owns_some ho4 (by omega)
  have h9 : w4.cell? ⟨g, 0, none⟩ = some (.int .i64 9) := hcell 0 _ rfl
  have hcap : cap4 ≤ 9223372036854775807 := by unfold maxLen at hc2; omega
  go_wp2_with fail
  go_ret
  exact ⟨rfl, (hK2.trans hk3 (fun _ _ h => h)).trans hk4 (fun _ _ h => h)⟩
end Go.Proofs.YtchleihlnpplkaaDoor
