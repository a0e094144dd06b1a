
/- The closed fact 'stored' of the laws on memory; what New leaves, as a Ram. -/
import Derived.Test.YtlmnmncdoiealaaDoorRamWords
namespace Go.Proofs.YtlmnmncdoiealaaDoor
open Go.RowKit Go.Deep
set_option linter.unusedVariables false

theorem NewRel.ram {w w' : World} {ws : Nat → Int} {n : Nat} (h : NewRel w w' ws n) : RamAt w' (w.heap.size + 3) w.heap.size (w.heap.size + 1) (w.heap.size + 2) 16384 (ramOf n ws) where
  box := h.box
  bytes := RowTo.of_row h.bytes
  room := by omega
  rng := fun i _ => by
    unfold ramOf Wb
    split <;> omega
  apart := by omega

theorem new_any (len cap : Nat) (A : Option Addr) (w : World) (ws : Nat → Int) (hR : Reads w A len cap (fun i => .int .u32 (ws i))) (hc : cap ≤ 9223372036854775807) (hr : ∀ i, i < len → 0 ≤ ws i ∧ ws i < 4294967296) :
    Calls Tryd.prog 12 #[.slice A len cap] w fun e w' => e = .returned (.pointer (some ⟨w.heap.size + 3, 0, none⟩)) ∧ NewRel w w' ws (min len 4096) := by
  obtain ⟨hl, rfl | ⟨b, o, rfl, hb, hcell⟩⟩ := hR
  · obtain rfl : len = 0 := by omega
    exact new_nil A w ws
  · exact new_some len cap w b o ws hl hc _ rfl hb hcell hr

theorem load_okI (r pb pw ph cp : Nat) (m : Nat → Int) (a n : Int) (s : Bool) (w : World) (R : RamAt w r pb pw ph cp m) (h0 : 0 ≤ a) (h : rightC a n = 0) :
    Calls Tryd.prog 14 #[.pointer (some ⟨r, 0, none⟩), .int .u32 a, .int .i64 n, .bool s] w fun e w' => e = .returned (.tuple #[.int .u32 (Wd.wide (be m a.toNat n.toNat) (8 * n) s), .nilIface]) ∧ w = w' := by
  obtain ⟨a', rfl⟩ := Int.eq_ofNat_of_zero_le h0
  obtain ⟨n', rfl⟩ := Int.eq_ofNat_of_zero_le (show 0 ≤ n by have := (rightC_ok h).1; omega)
  exact load_ok r pb pw ph cp m a' n' s w R h
theorem store_coldI (r pb pw ph cp : Nat) (m : Nat → Int) (a n v : Int) (w : World) (R : RamAt w r pb pw ph cp m) (h0 : 0 ≤ a) (hv : 0 ≤ v ∧ v < 4294967296) (h : rightC a n = 0)
    (hk : ∀ w', Keeps (· = pb) w w' → (Instr.lookup 84 (.map (some pw)) (.int .i64 (a / 256)) false).run Tryd.prog w' = .ok (.bool false) w') :
    Calls Tryd.prog 17 #[.pointer (some ⟨r, 0, none⟩), .int .u32 a, .int .i64 n, .int .u32 v] w fun e w' => e = .returned .nilIface ∧ RamAt w' r pb pw ph cp (stTo m a.toNat n.toNat v n.toNat) ∧ Keeps (· = pb) w w' := by
  obtain ⟨a', rfl⟩ := Int.eq_ofNat_of_zero_le h0
  obtain ⟨n', rfl⟩ := Int.eq_ofNat_of_zero_le (show 0 ≤ n by have := (rightC_ok h).1; omega)
  exact store_cold r pb pw ph cp m a' n' v w R hv h hk
/-- a store while no page is watched -/
theorem store_empty (r pb pw ph cp c : Nat) (m : Nat → Int) (a n v : Int) (w : World) (R : RamAt w r pb pw ph cp m) (hw : w.heap[pw]? = some (.map #[] c)) (h0 : 0 ≤ a) (hv : 0 ≤ v ∧ v < 4294967296) (h : rightC a n = 0) :
    Calls Tryd.prog 17 #[.pointer (some ⟨r, 0, none⟩), .int .u32 a, .int .i64 n, .int .u32 v] w fun e w' => e = .returned .nilIface ∧ RamAt w' r pb pw ph cp (stTo m a.toNat n.toNat v n.toNat) ∧ Keeps (· = pb) w w' :=
  store_coldI r pb pw ph cp m a n v w R h0 hv h fun w' hk => by
    have := (rightC_ok h).2.2
    exact look_empty w' pw c _ (hk.map hw (Ne.symm R.apart.2.2.2.1)) (WalkArith.wf_i64 (by omega))

set_option maxRecDepth 100000 in
set_option maxHeartbeats 1000000 in
theorem stored_any (w : World) :
    Calls Tryd.prog 11 #[] w fun e w' => e = .returned (.bool true) ∧ Keeps (fun _ => False) w w' := by
  go_enter Tryd.func11, Tryd.ntmps11
  go_wp2_with fail
  refine (new_any 1 1 _ _ (fun _ => 16909060) ⟨by omega, .inr ⟨_, _, rfl, by simp, fun i hi => ?_⟩⟩ (by omega) (fun _ _ => by omega)).mono ?_
  · obtain rfl : i = 0 := by omega
    simp [World.cell?_alloc_new]
  rintro e w1 ⟨rfl, hN⟩
  go_wp2_with fail
  have hR := hN.ram
  have hW := hN.watch
  have hK := hN.keeps
  rw [nblk_alloc] at hR hW
  have HV1 : Hid (Wd.wide (be (ramOf (min 1 4096) (fun _ => 16909060)) 1 1) (8 * 1) false = 2) := Lib.hid (by decide)
  refine (load_okI _ _ _ _ _ _ 1 1 false _ hR (by omega) (by decide)).mono ?_
  rintro e w' ⟨rfl, rfl⟩
  rw [show Wd.wide (be (ramOf (min 1 4096) (fun _ => 16909060)) (1 : Int).toNat (1 : Int).toNat) (8 * 1) false = 2 from HV1.out]
  go_wp2_with fail
  refine (store_empty _ _ _ _ _ _ _ 2 2 43707 _ hR hW (by omega) (by omega) (by decide)).mono ?_
  rintro e w2 ⟨rfl, hR2, hK2⟩
  go_wp2_with fail
  refine (words_any _ _ _ _ _ _ _ hR2).mono ?_
  rintro e w3 ⟨rfl, hrow, hK3⟩
  have hc := hrow.cell (i := 0) (by omega)
  have HV2 : be (stTo (ramOf (min 1 4096) (fun _ => 16909060)) (2 : Int).toNat (2 : Int).toNat 43707 (2 : Int).toNat) (4 * 0) 4 = 16951995 := by decide
  rw [HV2] at hc
  go_wp2_with fail
  go_ret
  exact ⟨rfl, ((((Keeps.refl _ w).alloc _).trans hK (fun _ _ h => h)).trans hK2 (fun b hb e => by omega)).trans hK3 (fun _ _ h => h)⟩

/-- what a load without a sign gives -/
theorem wide_be {m : Nat → Int} {a n : Nat} (hn : n = 1 ∨ n = 2 ∨ n = 4) (hm : ∀ i, i < n → 0 ≤ m (a + i) ∧ m (a + i) < 256) : Wd.wide (be m a n) (8 * n) false = be m a n := by
  have h := be_rng m a n hm
  rcases hn with rfl | rfl | rfl
  all_goals
    rw [Wd.wide, if_neg (by omega), if_neg (by simp)]
    exact Int.emod_eq_of_lt h.1 h.2
theorem wide_be4 {m : Nat → Int} {a : Nat} (hm : ∀ i, i < 4 → 0 ≤ m (a + i) ∧ m (a + i) < 256) : Wd.wide (be m a 4) 32 true = be m a 4 := by
  have h := be_rng m a 4 hm
  have h2 : be m a 4 < 4294967296 := h.2
  rw [Wd.wide, if_neg (by omega)]
  simp only [true_and]
  show (if (4294967296 : Int) ≤ 2 * (be m a 4 % 4294967296) then (be m a 4 % 4294967296 - 4294967296) % 4294967296 else be m a 4 % 4294967296) = _
  split <;> omega
end Go.Proofs.YtlmnmncdoiealaaDoor
