/- The walk of the law RamParts. -/
import Derived.Test.YtchleihlnpplkaaDoorStored
import Derived.Test.YtchleihlnpplkaaDoorWideOf
namespace Go.Proofs.YtchleihlnpplkaaDoor
open Go.RowKit Go.Deep
set_option linter.unusedVariables false

theorem Wd.wide_u (v n : Int) (h1 : 1 ≤ n) (h2 : n ≤ 32) : Wd.wide v n false = v % 2 ^ n.toNat := by
  rw [Wd.wide, if_neg (by omega), if_neg (by simp)]
theorem Wd.wide_s (v n : Int) (h1 : 1 ≤ n) (h2 : n ≤ 32) : Wd.wide v n true = if 2 ^ n.toNat ≤ 2 * (v % 2 ^ n.toNat) then (v % 2 ^ n.toNat - 2 ^ n.toNat) % 4294967296 else v % 2 ^ n.toNat := by
  rw [Wd.wide, if_neg (by omega)]
  by_cases h : (2 : Int) ^ n.toNat ≤ 2 * (v % 2 ^ n.toNat)
  · rw [if_pos ⟨rfl, h⟩, if_pos h]
  · rw [if_neg (fun x => h x.2), if_neg h]
theorem Wd.wide_rng (v n : Int) (s : Bool) (hv : 0 ≤ v ∧ v < 4294967296) : 0 ≤ Wd.wide v n s ∧ Wd.wide v n s < 4294967296 := by
  by_cases h : n < 1 ∨ 32 < n
  · rw [Wd.wide, if_pos h]; exact hv
  · have hp := Wd.p2 n.toNat (by omega)
    have hm : 0 ≤ v % 2 ^ n.toNat ∧ v % 2 ^ n.toNat < 2 ^ n.toNat := ⟨Int.emod_nonneg _ (by omega), Int.emod_lt_of_pos _ (by omega)⟩
    cases s
    · rw [Wd.wide_u v n (by omega) (by omega)]; omega
    · rw [Wd.wide_s v n (by omega) (by omega)]; split <;> omega
theorem wide_ss (v : Int) (h0 : 0 ≤ v) (h : v < 65536) : Wd.wide (Wd.wide v 16 true) 16 false = v := by
  rw [Wd.wide_u _ _ (by omega) (by omega), Wd.wide_s _ _ (by omega) (by omega)]
  show (if (65536 : Int) ≤ 2 * (v % 65536) then (v % 65536 - 65536) % 4294967296 else v % 65536) % 65536 = v
  split <;> omega

set_option maxRecDepth 100000 in
set_option maxHeartbeats 1000000 in
theorem ramParts_any (len cap : Nat) (A : Option Addr) (a : Int) (w : World) (ws : Nat → Int) (ea : Nat → Addr) (E : Errs3 w ea) (hR : Reads w A len cap (fun i => .int .u32 (ws i))) (hc : cap ≤ 9223372036854775807) (hr : ∀ i, i < len → 0 ≤ ws i ∧ ws i < 4294967296) (ha : 0 ≤ a ∧ a < 4294967296) :
    Calls Tryd.prog 3 #[.slice A len cap, .int .u32 a] w fun e w' => e = .returned (.bool true) ∧ Keeps (fun _ => False) w w' := by
  have hlc := hR.1
  by_cases h5 : 5000 < len
  · go_enter Tryd.func3, Tryd.ntmps3
    go_wp2_with fail
    refine (stored_any _).mono ?_
    rintro e w1 ⟨rfl, hK1⟩
    go_wp2_with fail
    go_ret
    exact ⟨rfl, hK1⟩
  · go_enter Tryd.func3, Tryd.ntmps3
    go_wp2_with fail
    refine (stored_any _).mono ?_
    rintro e w1 ⟨rfl, hK1⟩
    go_wp2_with fail
    have hR1 := hR.keep hK1 (fun _ _ _ h => h)
    have E1 := E.keep hK1 ⟨fun h => h, fun h => h, fun h => h⟩
    refine (new_any len cap A _ ws hR1 hc hr).mono ?_
    rintro e w2 ⟨rfl, hN⟩
    have E2 := E1.keep hN.keeps ⟨fun h => h, fun h => h, fun h => h⟩
    have hM := hN.ram
    have hK2 := hK1.trans hN.keeps (fun _ _ h => h)
    clear hN hK1 hR1 E1 hR hr E
    generalize ramOf (min len 4096) ws = m at *
    go_wp2_with fail
    by_cases hc0 : rightC a 4 = 0
    · obtain ⟨_, h4, h6⟩ := rightC_ok hc0
      have hrng : ∀ (b : Nat) (n : Nat), b + n ≤ 16384 → ∀ i, i < n → 0 ≤ m (b + i) ∧ m (b + i) < 256 := fun b n hb i hi => hM.rng _ (by omega)
      have e4 := wide_be4 (m := m) (a := a.toNat) (hrng _ 4 (by omega))
      refine (load_okI _ _ _ _ m a 4 true _ hM ha.1 hc0).mono ?_
      rintro e w' ⟨rfl, rfl⟩
      rw [show Wd.wide (be m a.toNat (4 : Int).toNat) (8 * 4) true = be m a.toNat 4 from e4]
      go_wp2_with fail
      have hb4 := be_rng m a.toNat 4 (hrng _ 4 (by omega))
      have hb41 := hb4.1
      have hb42 : be m a.toNat 4 < 4294967296 := hb4.2
      clear hb4
      go_loop [9, 10, 11, 12] (fun s9 s10 _ _ => ∃ i : Nat, i ≤ 4 ∧ s10 = .int .i64 i ∧ s9 = .int .i64 (be m a.toNat i)) (fun _ s10 _ _ => 4 - (intOf s10).toNat)
      case atStart => exact ⟨0, by omega, rfl, rfl⟩
      case round =>
        obtain ⟨i, hi, rfl, rfl⟩ := hrel
        by_cases hlt : i < 4
        · have hi1 : ((a + (i : Int)).toNat) = a.toNat + i := by omega
          have hrc : rightC (a + (i : Int)) 1 = 0 := by
            unfold rightC; rw [if_neg (by omega), if_neg (by omega), if_neg (by omega)]
          have ew := wide_be (m := m) (a := a.toNat + i) (n := 1) (.inl rfl) (hrng _ 1 (by omega))
          have hg := hrng (a.toNat + i) 1 (by omega) 0 (by omega)
          have hbe : be m (a.toNat + i) 1 = m (a.toNat + i) := by simp [be]
          have hr := be_rng m a.toNat i (fun k hk => hrng _ 4 (by omega) k (by omega))
          have hp : (256 : Int) ^ i ≤ 16777216 := by
            have hi4 : i = 0 ∨ i = 1 ∨ i = 2 ∨ i = 3 := by omega
            rcases hi4 with h | h | h | h <;> rw [h] <;> decide
          have hr1 := hr.1
          have hr2 : be m a.toNat i < 16777216 := by omega
          rw [Nat.add_zero] at hg
          obtain ⟨hg1, hg2⟩ := hg
          clear hp hr
          have HE := Lib.hid hbe
          have HW := Lib.hid ew
          have HI := Lib.hid hi1
          clear hbe ew hi1
          go_wp2_with fail
          refine (load_okI _ _ _ _ m _ 1 false _ hM (by omega) hrc).mono ?_
          rintro e w' ⟨rfl, rfl⟩
          rw [HI.out, show Wd.wide (be m (a.toNat + i) (1 : Int).toNat) (8 * 1) false = m (a.toNat + i) from HW.out.trans HE.out]
          go_wp2_with fail
          go_round
          case rel => exact ⟨i + 1, by omega, by go_num, rfl⟩
          case measure => simp [intOf]; omega
        · obtain rfl : i = 4 := by omega
          have hrc1 : rightC a 2 = 0 := by
            unfold rightC; rw [if_neg (by omega), if_neg (by omega), if_neg (by omega)]
          have hrc2 : rightC (a + 2) 2 = 0 := by
            unfold rightC; rw [if_neg (by omega), if_neg (by omega), if_neg (by omega)]
          have E1 := Lib.hid (wide_be (m := m) (a := a.toNat) (n := 2) (.inr (.inl rfl)) (hrng _ 2 (by omega)))
          have E2' := Lib.hid (wide_be (m := m) (a := a.toNat + 2) (n := 2) (.inr (.inl rfl)) (hrng _ 2 (by omega)))
          have HI : Hid ((a + 2).toNat = a.toNat + 2) := Lib.hid (by omega)
          have hx := be_rng m a.toNat 2 (hrng _ 2 (by omega))
          have hx1 := hx.1
          have hx2 : be m a.toNat 2 < 65536 := hx.2
          have hy := be_rng m (a.toNat + 2) 2 (hrng _ 2 (by omega))
          have hy1 := hy.1
          have hy2 : be m (a.toNat + 2) 2 < 65536 := hy.2
          clear hx hy
          have HB : Hid (be m a.toNat 4 = 65536 * be m a.toNat 2 + be m (a.toNat + 2) 2) := by
            refine Lib.hid ?_
            show 256 * (256 * (256 * (256 * 0 + m (a.toNat + 0)) + m (a.toNat + 1)) + m (a.toNat + 2)) + m (a.toNat + 3) = 65536 * (256 * (256 * 0 + m (a.toNat + 0)) + m (a.toNat + 1)) + (256 * (256 * 0 + m (a.toNat + 2 + 0)) + m (a.toNat + 2 + 1))
            rw [show a.toNat + 2 + 0 = a.toNat + 2 by omega, show a.toNat + 2 + 1 = a.toNat + 3 by omega]
            omega
          have HS := Lib.hid (wide_ss (be m (a.toNat + 2) 2) hy1 hy2)
          have hws := Wd.wide_rng (be m (a.toNat + 2) 2) 16 true (by omega)
          go_wp2_with fail
          refine (load_okI _ _ _ _ m _ 2 false _ hM ha.1 hrc1).mono ?_
          rintro e w' ⟨rfl, rfl⟩
          rw [show Wd.wide (be m a.toNat (2 : Int).toNat) (8 * 2) false = be m a.toNat 2 from E1.out]
          go_wp2_with fail
          refine (load_okI _ _ _ _ m _ 2 false _ hM (by omega) hrc2).mono ?_
          rintro e w' ⟨rfl, rfl⟩
          rw [HI.out, show Wd.wide (be m (a.toNat + 2) (2 : Int).toNat) (8 * 2) false = be m (a.toNat + 2) 2 from E2'.out]
          go_wp2_with fail
          refine (load_okI _ _ _ _ m _ 2 true _ hM (by omega) hrc2).mono ?_
          rintro e w' ⟨rfl, rfl⟩
          rw [HI.out, show Wd.wide (be m (a.toNat + 2) (2 : Int).toNat) (8 * 2) true = Wd.wide (be m (a.toNat + 2) 2) 16 true from rfl]
          generalize Wd.wide (be m (a.toNat + 2) 2) 16 true = y at *
          have HB' : (65536 * be m a.toNat 2 + be m (a.toNat + 2) 2 == be m a.toNat 4) = true := by rw [HB.out]; simp
          go_wp2_with fail
          refine (wideOf_any _ _ _ _ hws).mono ?_
          rintro e w' ⟨rfl, rfl⟩
          go_wp2_with fail
          go_ret
          refine ⟨?_, hK2⟩
          rw [HS.out]
          simp
    · refine (load_bad _ a 4 true _ ea E2 ha hc0).mono ?_
      rintro e w' ⟨rfl, rfl⟩
      unfold errV
      go_wp2_with fail
      go_ret
      exact ⟨rfl, hK2⟩
end Go.Proofs.YtchleihlnpplkaaDoor
