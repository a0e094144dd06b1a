
/- The walks of slices.Index, slices.Contains over ints. -/
import Derived.Test.YtgmbladcoikffaaGreatDoorReads
namespace Go.Proofs.YtgmbladcoikffaaGreatDoor
open Go.RowKit Go.Deep
set_option linter.unusedVariables false
set_option linter.unusedSimpArgs false

set_option maxHeartbeats 1000000 in
theorem idx_any (A : Option Addr) (n cap : Nat) (l : List Int) (x : Int) (w : World) (hR : Reads w A n cap (fun i => .int .i64 (l.getD i 0))) (hn : n = l.length) (hc : cap ≤ 9223372036854775807) :
    Calls Tryz.prog 158 #[.slice A n cap, .int .i64 x] w fun e w' => ∃ r : Int, e = .returned (.int .i64 r) ∧ decide (0 ≤ r) = l.contains x ∧ w' = w := by
  have HR := Lib.hid hR
  have HN := Lib.hid hn
  have hnc : n ≤ cap := hR.1
  clear hR hn
  go_enter Tryz.func158, Tryz.ntmps158
  go_wp2_with fail
  go_loopw [8] (fun s8 wr => ∃ i : Nat, i ≤ n ∧ s8 = .int .i64 i ∧ (∀ j, j < i → l.getD j 0 ≠ x) ∧ w = wr) (fun s8 _ => n - (intOf s8).toNat)
  case atStart => exact ⟨0, by omega, rfl, fun j hj => absurd hj (Nat.not_lt_zero _), rfl⟩
  case round =>
    obtain ⟨i, hi, rfl, hf, rfl⟩ := hrel
    have HF := Lib.hid hf
    clear hf
    by_cases hlt : i < n
    · obtain ⟨h1, h2 | ⟨b, o, rfl, hb, hcell⟩⟩ := HR.out
      · omega
      have e := hcell i hlt
      have HM := Lib.hid (show l.getD i 0 ∈ l by
        rw [List.getD_eq_getElem?_getD, List.getElem?_eq_getElem (by rw [← HN.out]; exact hlt)]
        exact List.getElem_mem _)
      obtain ⟨y, hy⟩ : ∃ y, l.getD i 0 = y := ⟨_, rfl⟩
      have HY := Lib.hid hy
      simp only [hy] at e
      rw [hy] at HM
      clear hcell hy
      by_cases hxy : x = y
      · have t1 : (x == y) = true := by simpa using hxy
        have HC := Lib.hid (show l.contains x = true by rw [hxy, List.contains_iff_mem]; exact HM.out)
        clear hxy
        go_wp2_with fail
        go_ret
        exact ⟨_, rfl, by rw [HC.out]; exact decide_eq_true (by omega), rfl⟩
      · have t1 : (x == y) = false := by simpa using hxy
        have HF2 := Lib.hid (show ∀ j, j < i + 1 → l.getD j 0 ≠ x from fun j hj => by
          by_cases e : j = i
          · rw [e, HY.out]; exact fun h => hxy h.symm
          · exact HF.out j (by omega))
        clear hxy
        go_wp2_with fail
        go_roundw
        case rel => exact ⟨i + 1, by omega, by go_num, HF2.out, trivial⟩
        case measure => simp [intOf]; omega
    · obtain rfl : i = n := by omega
      have HC := Lib.hid (show l.contains x = false by
        rw [Bool.eq_false_iff, ne_eq, List.contains_iff_mem]
        intro hm
        obtain ⟨j, hj, e⟩ := List.getElem_of_mem hm
        have := HF.out j (by rw [HN.out]; exact hj)
        rw [List.getD_eq_getElem?_getD, List.getElem?_eq_getElem hj] at this
        exact this e)
      go_wp2_with fail
      go_ret
      exact ⟨_, rfl, by rw [HC.out]; rfl, rfl⟩
theorem contains_any (A : Option Addr) (n cap : Nat) (l : List Int) (x : Int) (w : World) (hR : Reads w A n cap (fun i => .int .i64 (l.getD i 0))) (hn : n = l.length) (hc : cap ≤ 9223372036854775807) :
    Calls Tryz.prog 136 #[.slice A n cap, .int .i64 x] w fun e w' => e = .returned (.bool (l.contains x)) ∧ w' = w := by
  have HI := Lib.hid (fun w hR => idx_any A n cap l x w hR hn hc)
  have HR := Lib.hid hR
  clear hR hn
  generalize l.contains x = r at *
  go_enter Tryz.func136, Tryz.ntmps136
  go_wp2_with fail
  refine (HI.out _ HR.out).mono ?_
  rintro e w' ⟨q, rfl, hq, rfl⟩
  go_wp2_with fail
  go_ret
  exact ⟨rfl, rfl⟩
/-- .. of a result -/
theorem contains_at (v : Value) (l : List Int) (x : Int) (w : World) (h : IntsAt w l v) :
    Calls Tryz.prog 136 #[v, .int .i64 x] w fun e w' => e = .returned (.bool (l.contains x)) ∧ w' = w := by
  obtain ⟨A, n, cap, rfl, hn, hc, hR⟩ := h
  exact contains_any A n cap l x w hR hn (by omega)
end Go.Proofs.YtgmbladcoikffaaGreatDoor
