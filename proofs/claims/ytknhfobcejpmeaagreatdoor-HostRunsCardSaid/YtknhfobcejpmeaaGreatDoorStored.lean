
/- The closed fact 'stored' of the laws on memory; what New leaves, as a Ram. -/
import Derived.Test.YtknhfobcejpmeaaGreatDoorRamWords
namespace Go.Proofs.YtknhfobcejpmeaaGreatDoor
open Go.RowKit Go.Deep
set_option linter.unusedVariables false

theorem NewRel.ram {w w' : World} {ws : Nat → Int} {n : Nat} (h : NewRel w w' ws n) : RamAt w' (w.heap.size + 3) w.heap.size (w.heap.size + 1) (w.heap.size + 2) 16384 (ramOf n ws) where
  box := h.box
  bytes := RowTo.of_row h.bytes
  room := by omega
  rng := fun i _ => by
    unfold ramOf Wb
    split <;> omega
  apart := by omega

theorem new_any (len cap : Nat) (A : Option Addr) (w : World) (ws : Nat → Int) (hR : Reads w A len cap (fun i => .int .u32 (ws i))) (hc : cap ≤ 9223372036854775807) (hr : ∀ i, i < len → 0 ≤ ws i ∧ ws i < 4294967296) :
    Calls Tryz.prog 55 #[.slice A len cap] w fun e w' => e = .returned (.pointer (some ⟨w.heap.size + 3, 0, none⟩)) ∧ NewRel w w' ws (min len 4096) := by
  obtain ⟨hl, rfl | ⟨b, o, rfl, hb, hcell⟩⟩ := hR
  · obtain rfl : len = 0 := by omega
    exact new_nil A w ws
  · exact new_some len cap w b o ws hl hc _ rfl hb hcell hr

theorem load_okI (r pb pw ph cp : Nat) (m : Nat → Int) (a n : Int) (s : Bool) (w : World) (R : RamAt w r pb pw ph cp m) (h0 : 0 ≤ a) (h : rightC a n = 0) :
    Calls Tryz.prog 168 #[.pointer (some ⟨r, 0, none⟩), .int .u32 a, .int .i64 n, .bool s] w fun e w' => e = .returned (.tuple #[.int .u32 (Wd.wide (be m a.toNat n.toNat) (8 * n) s), .nilIface]) ∧ w = w' := by
  obtain ⟨a', rfl⟩ := Int.eq_ofNat_of_zero_le h0
  obtain ⟨n', rfl⟩ := Int.eq_ofNat_of_zero_le (show 0 ≤ n by have := (rightC_ok h).1; omega)
  exact load_ok r pb pw ph cp m a' n' s w R h
theorem store_coldI (r pb pw ph cp : Nat) (m : Nat → Int) (a n v : Int) (w : World) (R : RamAt w r pb pw ph cp m) (h0 : 0 ≤ a) (hv : 0 ≤ v ∧ v < 4294967296) (h : rightC a n = 0)
    (hk : ∀ w', Keeps (· = pb) w w' → (Instr.lookup 139 (.map (some pw)) (.int .i64 (a / 256)) false).run Tryz.prog w' = .ok (.bool false) w') :
    Calls Tryz.prog 100 #[.pointer (some ⟨r, 0, none⟩), .int .u32 a, .int .i64 n, .int .u32 v] w fun e w' => e = .returned .nilIface ∧ RamAt w' r pb pw ph cp (stTo m a.toNat n.toNat v n.toNat) ∧ Keeps (· = pb) w w' := by
  obtain ⟨a', rfl⟩ := Int.eq_ofNat_of_zero_le h0
  obtain ⟨n', rfl⟩ := Int.eq_ofNat_of_zero_le (show 0 ≤ n by have := (rightC_ok h).1; omega)
  exact store_cold r pb pw ph cp m a' n' v w R hv h hk
/-- a store while no page is watched -/
theorem store_empty (r pb pw ph cp c : Nat) (m : Nat → Int) (a n v : Int) (w : World) (R : RamAt w r pb pw ph cp m) (hw : w.heap[pw]? = some (.map #[] c)) (h0 : 0 ≤ a) (hv : 0 ≤ v ∧ v < 4294967296) (h : rightC a n = 0) :
    Calls Tryz.prog 100 #[.pointer (some ⟨r, 0, none⟩), .int .u32 a, .int .i64 n, .int .u32 v] w fun e w' => e = .returned .nilIface ∧ RamAt w' r pb pw ph cp (stTo m a.toNat n.toNat v n.toNat) ∧ Keeps (· = pb) w w' :=
  store_coldI r pb pw ph cp m a n v w R h0 hv h fun w' hk => by
    have := (rightC_ok h).2.2
    exact look_empty w' pw c _ (hk.map hw (Ne.symm R.apart.2.2.2.1)) (WalkArith.wf_i64 (by omega))

/-- what a load without a sign gives -/
theorem wide_be {m : Nat → Int} {a n : Nat} (hn : n = 1 ∨ n = 2 ∨ n = 4) (hm : ∀ i, i < n → 0 ≤ m (a + i) ∧ m (a + i) < 256) : Wd.wide (be m a n) (8 * n) false = be m a n := by
  have h := be_rng m a n hm
  rcases hn with rfl | rfl | rfl
  all_goals
    rw [Wd.wide, if_neg (by omega), if_neg (by simp)]
    exact Int.emod_eq_of_lt h.1 h.2
theorem wide_be4 {m : Nat → Int} {a : Nat} (hm : ∀ i, i < 4 → 0 ≤ m (a + i) ∧ m (a + i) < 256) : Wd.wide (be m a 4) 32 true = be m a 4 := by
  have h := be_rng m a 4 hm
  have h2 : be m a 4 < 4294967296 := h.2
  rw [Wd.wide, if_neg (by omega)]
  simp only [true_and]
  show (if (4294967296 : Int) ≤ 2 * (be m a 4 % 4294967296) then (be m a 4 % 4294967296 - 4294967296) % 4294967296 else be m a 4 % 4294967296) = _
  split <;> omega
end Go.Proofs.YtknhfobcejpmeaaGreatDoor
