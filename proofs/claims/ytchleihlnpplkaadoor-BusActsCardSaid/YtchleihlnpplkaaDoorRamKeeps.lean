/- The walk of the law RamKeeps. -/
import Derived.Test.YtchleihlnpplkaaDoorAlike
import Derived.Test.YtchleihlnpplkaaDoorRamCopy
namespace Go.Proofs.YtchleihlnpplkaaDoor
open Go.RowKit Go.Deep
set_option linter.unusedVariables false

theorem be_congr {m m' : Nat → Int} {a : Nat} : ∀ n, (∀ k, k < n → m (a + k) = m' (a + k)) → be m a n = be m' a n
  | 0, _ => rfl
  | n + 1, h => by
    show 256 * be m a n + m (a + n) = 256 * be m' a n + m' (a + n)
    rw [be_congr n (fun k hk => h k (by omega)), h n (by omega)]
theorem be_stTo {m : Nat → Int} {a n : Nat} {v : Int} (hv : 0 ≤ v ∧ v < 4294967296) (hn : n = 1 ∨ n = 2 ∨ n = 4) : be (stTo m a n v n) a n = v % 256 ^ n := by
  rcases hn with rfl | rfl | rfl
  · simp [be, stTo, sb]
  · simp [be, stTo, sb]; omega
  · simp [be, stTo, sb]; omega
/-- a word that the store does not reach -/
theorem be_other {m : Nat → Int} {a n i : Nat} {v : Int} (hn : n = 1 ∨ n = 2 ∨ n = 4) (ha : a % n = 0) (hi : i ≠ a / 4) : be (stTo m a n v n) (4 * i) 4 = be m (4 * i) 4 := by
  refine be_congr 4 fun k hk => ?_
  unfold stTo
  rw [if_neg]
  rcases hn with rfl | rfl | rfl <;> omega
theorem stTo_rng {m : Nat → Int} {a n j : Nat} {v : Int} {k : Nat} (h : 0 ≤ m k ∧ m k < 256) : 0 ≤ stTo m a n v j k ∧ stTo m a n v j k < 256 := by
  unfold stTo sb
  split
  · exact ⟨Int.emod_nonneg _ (by decide), Int.emod_lt_of_pos _ (by decide)⟩
  · exact h
theorem bw_rng {m : Nat → Int} (h : ∀ i, i < 16384 → 0 ≤ m i ∧ m i < 256) {k : Nat} (hk : k < 4096) : 0 ≤ be m (4 * k) 4 ∧ be m (4 * k) 4 < 4294967296 := be_rng m (4 * k) 4 (fun i hi => h _ (by omega))

set_option maxRecDepth 100000 in
set_option maxHeartbeats 2000000 in
theorem ramKeeps_any (len cap : Nat) (A : Option Addr) (a n v : Int) (w : World) (ws : Nat → Int) (ea : Nat → Addr) (E : Errs3 w ea) (hR : Reads w A len cap (fun i => .int .u32 (ws i))) (hc : cap ≤ 9223372036854775807) (hr : ∀ i, i < len → 0 ≤ ws i ∧ ws i < 4294967296) (ha : 0 ≤ a ∧ a < 4294967296) (hn : (Lit.int .i64 n).wf = true) (hv : 0 ≤ v ∧ v < 4294967296) :
    Calls Tryd.prog 4 #[.slice A len cap, .int .u32 a, .int .i64 n, .int .u32 v] w fun e w' => e = .returned (.bool true) ∧ Keeps (fun _ => False) w w' := by
  have hlc := hR.1
  by_cases h5 : 5000 < len
  · go_enter Tryd.func4, Tryd.ntmps4
    go_wp2_with fail
    refine (stored_any _).mono ?_
    rintro e w1 ⟨rfl, hK1⟩
    go_wp2_with fail
    go_ret
    exact ⟨rfl, hK1⟩
  · go_enter Tryd.func4, Tryd.ntmps4
    go_wp2_with fail
    refine (stored_any _).mono ?_
    rintro e w1 ⟨rfl, hK1⟩
    go_wp2_with fail
    have hR1 := hR.keep hK1 (fun _ _ _ h => h)
    have E1 := E.keep hK1 ⟨fun h => h, fun h => h, fun h => h⟩
    refine (new_any len cap A _ ws hR1 hc hr).mono ?_
    rintro e w2 ⟨rfl, hN⟩
    have E2 := E1.keep hN.keeps ⟨fun h => h, fun h => h, fun h => h⟩
    have hM := hN.ram
    have hW := hN.watch
    have hH := hN.hits
    have hK2 := hK1.trans hN.keeps (fun _ _ h => h)
    have hsz := hN.size
    have hs := hK1.size
    clear hN hK1 hR1 E1 hR hr E
    generalize ramOf (min len 4096) ws = m at *
    generalize w1.heap.size + 3 = r at *
    generalize w1.heap.size + 2 = ph at *
    generalize w1.heap.size + 1 = pw at *
    generalize w1.heap.size = pb at *
    have hap := hM.apart
    go_wp2_with fail
    refine (words_any _ _ _ _ _ m _ hM).mono ?_
    rintro e w3 ⟨rfl, hrow, hK3⟩
    have E3 := E2.keep hK3 ⟨fun h => h, fun h => h, fun h => h⟩
    have hM3 := hM.keep hK3 (fun h => h) (fun h => h)
    have hW3 := hK3.map hW (fun h => h)
    have hH3 := hK3.map hH (fun h => h)
    have hK23 := hK2.trans hK3 (fun _ _ h => h)
    have hl2 := lt_map hW
    have hl3 := hM.bytes.lt
    clear E2 hM hW hH hK2 hK3
    have hwb : pb < w2.heap.size := by omega
    generalize w2.heap.size = wb at *
    go_wp2_with fail
    refine (copy_any _ _ _ _ _ m _ _ _ _ _ hM3 hW3 hH3).mono ?_
    rintro e w4 ⟨r', pb', pw', ph', cp', rfl, hX, hXw, hXh, hXs, hK4⟩
    have hlw := hrow.lt
    have hlb := hM3.bytes.lt
    have E4 := E3.keep hK4 ⟨fun h => h, fun h => h, fun h => h⟩
    have hM4 := hM3.keep hK4 (fun h => h) (fun h => h)
    have hW4 := hK4.map hW3 (fun h => h)
    have hrow4 := hK4.rowTo (RowTo.of_row hrow) (fun h => h)
    have hK24 := hK23.trans hK4 (fun _ _ h => h)
    clear E3 hM3 hW3 hH3 hK4 hK23 hXw hXh hrow
    go_wp2_with fail
    by_cases hc0 : rightC a n = 0
    · obtain ⟨hn3, hal, hlt4⟩ := rightC_ok hc0
      refine (store_empty _ _ _ _ _ _ m a n v _ hM4 hW4 ha.1 hv hc0).mono ?_
      rintro e w5 ⟨rfl, hM5, hK5⟩
      have hX5 := hX.keep hK5 (by omega) (by omega)
      have hrow5 := hK5.rowTo hrow4 (by omega)
      have hK25 := hK24.trans hK5 (fun b hb h => by omega)
      clear hM4 hW4 hK5 hK24 hX hrow4 E4
      have hva : Wd.wide (be (stTo m a.toNat n.toNat v n.toNat) a.toNat n.toNat) (8 * n) false = v % 256 ^ n.toNat := by
        have h1 := be_stTo (m := m) (a := a.toNat) (n := n.toNat) hv (by omega)
        have h2 := wide_be (m := stTo m a.toNat n.toNat v n.toNat) (a := a.toNat) (n := n.toNat) (by omega) (fun i hi => hM5.rng _ (by rcases hn3 with rfl | rfl | rfl <;> omega))
        rw [h1, show (8 * (n.toNat : Int)) = 8 * n by omega] at h2
        rw [h1]; exact h2
      have HV := Lib.hid hva
      have hal' : a.toNat % n.toNat = 0 := by
        rcases hn3 with rfl | rfl | rfl
        · exact (show a.toNat % 1 = 0 by omega)
        · exact (show a.toNat % 2 = 0 by omega)
        · exact (show a.toNat % 4 = 0 by omega)
      have HO : Hid (∀ i : Nat, i ≠ a.toNat / 4 → be (stTo m a.toNat n.toNat v n.toNat) (4 * i) 4 = be m (4 * i) 4) := Lib.hid fun i hi => be_other (by omega) hal' hi
      have HM5 := Lib.hid hM5.rng
      clear hva
      generalize stTo m a.toNat n.toNat v n.toNat = m5 at *
      rcases hn3 with rfl | rfl | rfl
      · have hva : Wd.wide (be m5 a.toNat (1 : Int).toNat) (8 * 1) false = v % 256 := HV.out
        have HVA := Lib.hid hva
        clear hva HV
        go_wp2_with fail
        refine (load_okI _ _ _ _ _ m5 a 1 false _ hM5 ha.1 hc0).mono ?_
        rintro e w' ⟨rfl, rfl⟩
        rw [HVA.out]
        go_wp2_with fail
        refine (words_any _ _ _ _ _ m _ hX5).mono ?_
        rintro e w6 ⟨rfl, hrow6, hK6⟩
        go_wp2_with fail
        refine (alike_same _ _ 4096 4096 4096 (fun k => be m (4 * k) 4) _ (by omega) (by omega) (by omega) (fun i hi => hrow6.cell hi) (fun i hi => (hK6.rowTo hrow5 (fun h => h)).cell hi)).mono ?_
        rintro e w7 ⟨rfl, hK7⟩
        have hK57 := hK6.trans hK7 (fun _ _ h => h)
        have hM7 := hM5.keep hK57 (fun h => h) (fun h => h)
        have hrow7 := hK57.rowTo hrow5 (fun h => h)
        have hK27 := hK25.trans hK57 (fun _ _ h => h)
        have hlw7 := hrow7.lt
        clear hM5 hrow5 hK25 hK57 hX5 hrow6
        go_wp2_with fail
        refine (words_any _ _ _ _ _ m5 _ hM7).mono ?_
        rintro e w8 ⟨rfl, hrow8, hK8⟩
        have hrowW := hK8.rowTo hrow7 (fun h => h)
        have hK28 := hK27.trans hK8 (fun _ _ h => h)
        clear hM7 hrow7 hK27 hK8
        generalize w7.heap.size = xb at *
        go_wp2_with fail
        go_loopw [17] (fun s17 wr => ∃ i : Nat, i ≤ 4096 ∧ s17 = .int .i64 i ∧ Keeps (fun _ => False) w8 wr) (fun s17 _ => 4096 - (intOf s17).toNat)
        case atStart => exact ⟨0, by omega, rfl, Keeps.refl _ _⟩
        case round =>
          obtain ⟨i, hi, rfl, hKi⟩ := hrel
          by_cases hlt : i < 4096
          · have h1 := (hKi.rowTo (RowTo.of_row hrow8) (fun h => h)).cell hlt
            have h2 := (hKi.rowTo hrowW (fun h => h)).cell hlt
            obtain ⟨a', rfl⟩ := Int.eq_ofNat_of_zero_le ha.1
            by_cases hia : i = a' / 4
            · subst hia
              go_wp2_with fail
              go_quiet (fail)
              go_wp2_with fail
              go_roundw
              case rel => exact ⟨a' / 4 + 1, by omega, by go_num, hKi.drewN _⟩
              case measure => simp [intOf]; omega
            · have ho := HO.out i hia
              simp only [ho] at h1
              have hd : ((i : Int) != (a' : Int) / 4) = true := by simp; omega
              go_wp2_with fail
              go_quiet (fail)
              go_wp2_with fail
              go_roundw
              case rel => exact ⟨i + 1, by omega, by go_num, hKi.drewN _⟩
              case measure => simp [intOf]; omega
          · obtain rfl : i = 4096 := by omega
            go_wp2_with fail
            go_ret
            exact ⟨rfl, hK28.trans hKi (fun _ _ h => h)⟩
      · have hva : Wd.wide (be m5 a.toNat (2 : Int).toNat) (8 * 2) false = v % 65536 := HV.out
        have HVA := Lib.hid hva
        clear hva HV
        go_wp2_with fail
        refine (load_okI _ _ _ _ _ m5 a 2 false _ hM5 ha.1 hc0).mono ?_
        rintro e w' ⟨rfl, rfl⟩
        rw [HVA.out]
        go_wp2_with fail
        refine (words_any _ _ _ _ _ m _ hX5).mono ?_
        rintro e w6 ⟨rfl, hrow6, hK6⟩
        go_wp2_with fail
        refine (alike_same _ _ 4096 4096 4096 (fun k => be m (4 * k) 4) _ (by omega) (by omega) (by omega) (fun i hi => hrow6.cell hi) (fun i hi => (hK6.rowTo hrow5 (fun h => h)).cell hi)).mono ?_
        rintro e w7 ⟨rfl, hK7⟩
        have hK57 := hK6.trans hK7 (fun _ _ h => h)
        have hM7 := hM5.keep hK57 (fun h => h) (fun h => h)
        have hrow7 := hK57.rowTo hrow5 (fun h => h)
        have hK27 := hK25.trans hK57 (fun _ _ h => h)
        have hlw7 := hrow7.lt
        clear hM5 hrow5 hK25 hK57 hX5 hrow6
        go_wp2_with fail
        refine (words_any _ _ _ _ _ m5 _ hM7).mono ?_
        rintro e w8 ⟨rfl, hrow8, hK8⟩
        have hrowW := hK8.rowTo hrow7 (fun h => h)
        have hK28 := hK27.trans hK8 (fun _ _ h => h)
        clear hM7 hrow7 hK27 hK8
        generalize w7.heap.size = xb at *
        go_wp2_with fail
        go_loopw [17] (fun s17 wr => ∃ i : Nat, i ≤ 4096 ∧ s17 = .int .i64 i ∧ Keeps (fun _ => False) w8 wr) (fun s17 _ => 4096 - (intOf s17).toNat)
        case atStart => exact ⟨0, by omega, rfl, Keeps.refl _ _⟩
        case round =>
          obtain ⟨i, hi, rfl, hKi⟩ := hrel
          by_cases hlt : i < 4096
          · have h1 := (hKi.rowTo (RowTo.of_row hrow8) (fun h => h)).cell hlt
            have h2 := (hKi.rowTo hrowW (fun h => h)).cell hlt
            obtain ⟨a', rfl⟩ := Int.eq_ofNat_of_zero_le ha.1
            by_cases hia : i = a' / 4
            · subst hia
              go_wp2_with fail
              go_quiet (fail)
              go_wp2_with fail
              go_roundw
              case rel => exact ⟨a' / 4 + 1, by omega, by go_num, hKi.drewN _⟩
              case measure => simp [intOf]; omega
            · have ho := HO.out i hia
              simp only [ho] at h1
              have hd : ((i : Int) != (a' : Int) / 4) = true := by simp; omega
              go_wp2_with fail
              go_quiet (fail)
              go_wp2_with fail
              go_roundw
              case rel => exact ⟨i + 1, by omega, by go_num, hKi.drewN _⟩
              case measure => simp [intOf]; omega
          · obtain rfl : i = 4096 := by omega
            go_wp2_with fail
            go_ret
            exact ⟨rfl, hK28.trans hKi (fun _ _ h => h)⟩
      · have hva : Wd.wide (be m5 a.toNat (4 : Int).toNat) (8 * 4) false = v := HV.out.trans (show v % 4294967296 = v by omega)
        have HVA := Lib.hid hva
        clear hva HV
        go_wp2_with fail
        refine (load_okI _ _ _ _ _ m5 a 4 false _ hM5 ha.1 hc0).mono ?_
        rintro e w' ⟨rfl, rfl⟩
        rw [HVA.out]
        go_wp2_with fail
        refine (words_any _ _ _ _ _ m _ hX5).mono ?_
        rintro e w6 ⟨rfl, hrow6, hK6⟩
        go_wp2_with fail
        refine (alike_same _ _ 4096 4096 4096 (fun k => be m (4 * k) 4) _ (by omega) (by omega) (by omega) (fun i hi => hrow6.cell hi) (fun i hi => (hK6.rowTo hrow5 (fun h => h)).cell hi)).mono ?_
        rintro e w7 ⟨rfl, hK7⟩
        have hK57 := hK6.trans hK7 (fun _ _ h => h)
        have hM7 := hM5.keep hK57 (fun h => h) (fun h => h)
        have hrow7 := hK57.rowTo hrow5 (fun h => h)
        have hK27 := hK25.trans hK57 (fun _ _ h => h)
        have hlw7 := hrow7.lt
        clear hM5 hrow5 hK25 hK57 hX5 hrow6
        go_wp2_with fail
        refine (words_any _ _ _ _ _ m5 _ hM7).mono ?_
        rintro e w8 ⟨rfl, hrow8, hK8⟩
        have hrowW := hK8.rowTo hrow7 (fun h => h)
        have hK28 := hK27.trans hK8 (fun _ _ h => h)
        clear hM7 hrow7 hK27 hK8
        generalize w7.heap.size = xb at *
        go_wp2_with fail
        go_loopw [17] (fun s17 wr => ∃ i : Nat, i ≤ 4096 ∧ s17 = .int .i64 i ∧ Keeps (fun _ => False) w8 wr) (fun s17 _ => 4096 - (intOf s17).toNat)
        case atStart => exact ⟨0, by omega, rfl, Keeps.refl _ _⟩
        case round =>
          obtain ⟨i, hi, rfl, hKi⟩ := hrel
          by_cases hlt : i < 4096
          · have h1 := (hKi.rowTo (RowTo.of_row hrow8) (fun h => h)).cell hlt
            have h2 := (hKi.rowTo hrowW (fun h => h)).cell hlt
            obtain ⟨a', rfl⟩ := Int.eq_ofNat_of_zero_le ha.1
            by_cases hia : i = a' / 4
            · subst hia
              go_wp2_with fail
              go_quiet (fail)
              go_wp2_with fail
              go_roundw
              case rel => exact ⟨a' / 4 + 1, by omega, by go_num, hKi.drewN _⟩
              case measure => simp [intOf]; omega
            · have ho := HO.out i hia
              simp only [ho] at h1
              have hd : ((i : Int) != (a' : Int) / 4) = true := by simp; omega
              go_wp2_with fail
              go_quiet (fail)
              go_wp2_with fail
              go_roundw
              case rel => exact ⟨i + 1, by omega, by go_num, hKi.drewN _⟩
              case measure => simp [intOf]; omega
          · obtain rfl : i = 4096 := by omega
            go_wp2_with fail
            go_ret
            exact ⟨rfl, hK28.trans hKi (fun _ _ h => h)⟩
    · refine (store_bad _ a n v _ ea E4 ha hc0).mono ?_
      rintro e w' ⟨rfl, rfl⟩
      unfold errV
      go_wp2_with fail
      refine (words_any _ _ _ _ _ m _ hM4).mono ?_
      rintro e w5 ⟨rfl, hrow5, hK5⟩
      go_wp2_with fail
      refine (alike_same _ _ 4096 4096 4096 (fun k => be m (4 * k) 4) _ (by omega) (by omega) (by omega) (fun i hi => (hK5.rowTo hrow4 (fun h => h)).cell hi) (fun i hi => hrow5.cell hi)).mono ?_
      rintro e w6 ⟨rfl, hK6⟩
      go_wp2_with fail
      go_ret
      exact ⟨rfl, (hK24.trans hK5 (fun _ _ h => h)).trans hK6 (fun _ _ h => h)⟩
end Go.Proofs.YtchleihlnpplkaaDoor
