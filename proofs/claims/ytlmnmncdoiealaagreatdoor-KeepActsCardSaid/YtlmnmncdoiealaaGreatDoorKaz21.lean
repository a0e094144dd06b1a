import Derived.Test.YtlmnmncdoiealaaGreatDoorKaz20
import Derived.Test.YtlmnmncdoiealaaGreatDoorErr
import Derived.Test.YtlmnmncdoiealaaGreatDoorKaz14
import Derived.Test.YtlmnmncdoiealaaGreatDoorKaz00
import Derived.Test.YtlmnmncdoiealaaGreatDoorKaz18
import Derived.Test.YtlmnmncdoiealaaGreatDoorKaz19

/- Code -/
/- The walk of plain.Code. -/
namespace Go.Proofs.YtlmnmncdoiealaaGreatDoor
open Go.RowKit Go.Deep
set_option linter.unusedVariables false

/-- the variable of an error's number -/
def gOf : Nat → Nat
  | 1 => 1
  | 2 => 0
  | 3 => 2
  | 4 => 3
  | 5 => 4
  | 6 => 5
  | 7 => 6
  | 8 => 7
  | 9 => 8
  | _ => 9
/-- all ten errors as they lie, and the handle that errors.As looks at -/
structure ErrsAll (w : World) (ea : Nat → Addr) : Prop where
  cell : ∀ c, 1 ≤ c → c ≤ 10 → w.cell? ⟨gOf c, 0, none⟩ = some (errV ea c)
  block : ∀ c, 1 ≤ c → c ≤ 10 → ∃ cs t, w.heap[(ea c).block]? = some (.cells cs t (0, 0))
  ne : ∀ c d, 1 ≤ c → c ≤ 10 → 1 ≤ d → d ≤ 10 → c ≠ d → ea c ≠ ea d
  type : w.cell? ⟨10, 0, none⟩ = some (.iface 138 (.agg #[.pointer (some ⟨12, 26, none⟩)]))
theorem ErrsAll.three {w : World} {ea : Nat → Addr} (E : ErrsAll w ea) : Errs3 w ea := ⟨E.cell 3 (by omega) (by omega), E.cell 9 (by omega) (by omega), E.cell 10 (by omega) (by omega)⟩
theorem ErrsAll.keep {w w' : World} {ea : Nat → Addr} {S : Nat → Prop} (E : ErrsAll w ea) (k : Keeps S w w') (hS : ∀ b, b < 12 → ¬ S b) (h : ∀ c, 1 ≤ c → c ≤ 10 → ¬ S (ea c).block) : ErrsAll w' ea where
  cell := fun c h1 h2 => k.cell' (E.cell c h1 h2) (hS _ (by
    have : c = 1 ∨ c = 2 ∨ c = 3 ∨ c = 4 ∨ c = 5 ∨ c = 6 ∨ c = 7 ∨ c = 8 ∨ c = 9 ∨ c = 10 := by omega
    rcases this with rfl | rfl | rfl | rfl | rfl | rfl | rfl | rfl | rfl | rfl <;> decide))
  block := fun c h1 h2 => by
    obtain ⟨cs, t, hb⟩ := E.block c h1 h2
    exact ⟨cs, t, (k.block _ (Array.getElem?_eq_some_iff.1 hb).1 (h c h1 h2)).trans hb⟩
  ne := E.ne
  type := k.cell' E.type (hS _ (by decide))
theorem ErrsAll.quiet {w w' : World} {ea : Nat → Addr} (E : ErrsAll w ea) (k : Keeps (fun _ => False) w w') : ErrsAll w' ea := E.keep k (fun _ _ h => h) (fun _ _ _ h => h)

theorem code_nil (w : World) :
    Calls Tryz.prog 23 #[.nilIface] w fun e w' => e = .returned (.tuple #[.int .i64 0, .int .i64 (-1)]) ∧ w = w' := by
  go_enter Tryz.func23, Tryz.ntmps23
  go_wp2_with fail
  go_ret2
  exact ⟨rfl, rfl⟩

theorem cell_set {w : World} {b o : Nat} {old v : Value} {T : TypeId} {cs : Array Value} {fz : Nat × Nat} (h : w.heap[b]? = some (.cells cs T fz)) (ho : o < cs.size) : (w.setCell ⟨b, o, none⟩ v).cell? ⟨b, o, none⟩ = some v := by
  have h2 : (w.setCell ⟨b, o, none⟩ v).heap[b]? = some (.cells (cs.setIfInBounds o v) T fz) := by simp [World.setCell, Array.getElem?_modify, h]
  unfold World.cell?
  rw [h2]
  simp [ho]
/-- the ten errors in a row -/
theorem ten_cells (w : World) (ea : Nat → Addr) (T : TypeId) (i : Nat) (hi : i < 10) :
    (w.alloc (.cells #[.iface 168 (.pointer (some (ea 1))), .iface 168 (.pointer (some (ea 2))), .iface 168 (.pointer (some (ea 3))), .iface 168 (.pointer (some (ea 4))), .iface 168 (.pointer (some (ea 5))), .iface 168 (.pointer (some (ea 6))), .iface 168 (.pointer (some (ea 7))), .iface 168 (.pointer (some (ea 8))), .iface 168 (.pointer (some (ea 9))), .iface 168 (.pointer (some (ea 10)))] T)).cell? ⟨w.heap.size, i, none⟩ = some (.iface 168 (.pointer (some (ea (i + 1))))) := by
  unfold World.cell?
  rw [blk_alloc_new]
  have : i = 0 ∨ i = 1 ∨ i = 2 ∨ i = 3 ∨ i = 4 ∨ i = 5 ∨ i = 6 ∨ i = 7 ∨ i = 8 ∨ i = 9 := by omega
  rcases this with rfl | rfl | rfl | rfl | rfl | rfl | rfl | rfl | rfl | rfl <;> rfl

set_option maxRecDepth 100000 in
set_option maxHeartbeats 2000000 in
theorem code_sent (c : Nat) (h1 : 1 ≤ c) (h2 : c ≤ 10) (w : World) (ea : Nat → Addr) (E : ErrsAll w ea) :
    Calls Tryz.prog 23 #[errV ea c] w fun e w' => e = .returned (.tuple #[.int .i64 c, .int .i64 (-1)]) ∧ Keeps (fun _ => False) w w' := by
  have K0 := (Keeps.refl (fun _ => False) w).alloc (.cells #[.pointer none] 86)
  have ht0 : (w.alloc (.cells #[.pointer none] 86)).cell? ⟨w.heap.size, 0, none⟩ = some (.pointer none) := by simp
  unfold errV
  go_enter Tryz.func23, Tryz.ntmps23
  go_wp2_with fail
  refine (as_miss _ _ _ _ (E.quiet K0).type ht0 (by simp)).mono ?_
  rintro e w3 ⟨rfl, hw3⟩
  have K3 : Keeps (fun _ => False) w w3 := by rw [hw3]; exact ((K0.alloc _).alloc _).alloc _
  clear hw3 ht0 K0
  have E3 := E.quiet K3
  have g1 : w3.cell? ⟨gOf 1, 0, none⟩ = some (.iface 168 (.pointer (some (ea 1)))) := E3.cell 1 (by omega) (by omega)
  have g2 : w3.cell? ⟨gOf 2, 0, none⟩ = some (.iface 168 (.pointer (some (ea 2)))) := E3.cell 2 (by omega) (by omega)
  have g3 : w3.cell? ⟨gOf 3, 0, none⟩ = some (.iface 168 (.pointer (some (ea 3)))) := E3.cell 3 (by omega) (by omega)
  have g4 : w3.cell? ⟨gOf 4, 0, none⟩ = some (.iface 168 (.pointer (some (ea 4)))) := E3.cell 4 (by omega) (by omega)
  have g5 : w3.cell? ⟨gOf 5, 0, none⟩ = some (.iface 168 (.pointer (some (ea 5)))) := E3.cell 5 (by omega) (by omega)
  have g6 : w3.cell? ⟨gOf 6, 0, none⟩ = some (.iface 168 (.pointer (some (ea 6)))) := E3.cell 6 (by omega) (by omega)
  have g7 : w3.cell? ⟨gOf 7, 0, none⟩ = some (.iface 168 (.pointer (some (ea 7)))) := E3.cell 7 (by omega) (by omega)
  have g8 : w3.cell? ⟨gOf 8, 0, none⟩ = some (.iface 168 (.pointer (some (ea 8)))) := E3.cell 8 (by omega) (by omega)
  have g9 : w3.cell? ⟨gOf 9, 0, none⟩ = some (.iface 168 (.pointer (some (ea 9)))) := E3.cell 9 (by omega) (by omega)
  have g10 : w3.cell? ⟨gOf 10, 0, none⟩ = some (.iface 168 (.pointer (some (ea 10)))) := E3.cell 10 (by omega) (by omega)
  simp only [gOf] at g1 g2 g3 g4 g5 g6 g7 g8 g9 g10
  have hten := fun i hi => ten_cells w3 ea 26 i hi
  go_wp2_with fail
  have K4 := K3.alloc (.cells #[.iface 168 (.pointer (some (ea 1))), .iface 168 (.pointer (some (ea 2))), .iface 168 (.pointer (some (ea 3))), .iface 168 (.pointer (some (ea 4))), .iface 168 (.pointer (some (ea 5))), .iface 168 (.pointer (some (ea 6))), .iface 168 (.pointer (some (ea 7))), .iface 168 (.pointer (some (ea 8))), .iface 168 (.pointer (some (ea 9))), .iface 168 (.pointer (some (ea 10)))] 26)
  generalize w3.alloc (.cells #[.iface 168 (.pointer (some (ea 1))), .iface 168 (.pointer (some (ea 2))), .iface 168 (.pointer (some (ea 3))), .iface 168 (.pointer (some (ea 4))), .iface 168 (.pointer (some (ea 5))), .iface 168 (.pointer (some (ea 6))), .iface 168 (.pointer (some (ea 7))), .iface 168 (.pointer (some (ea 8))), .iface 168 (.pointer (some (ea 9))), .iface 168 (.pointer (some (ea 10)))] 26) = w4 at *
  generalize w3.heap.size = B at *
  have E4 := E.quiet K4
  clear g1 g2 g3 g4 g5 g6 g7 g8 g9 g10 E3 K3
  go_loop [3, 28] (fun s3 s28 => s3 = .int .i64 (-1) ∧ ∃ i : Nat, i < c ∧ s28 = .int .i64 i) (fun _ s28 => 10 - (intOf s28).toNat)
  case atStart => exact ⟨rfl, 0, by omega, rfl⟩
  case round =>
    obtain ⟨rfl, i, hi, rfl⟩ := hrel
    have hc := hten i (by omega)
    by_cases hic : i + 1 = c
    · subst hic
      go_wp2_with fail
      refine (is_same _ _).mono ?_
      rintro e w' ⟨rfl, rfl⟩
      go_wp2_with fail
      go_ret2
      exact ⟨rfl, K4⟩
    · obtain ⟨ca, ta, hba⟩ := E4.block c h1 h2
      obtain ⟨cb, tb, hbb⟩ := E4.block (i + 1) (by omega) (by omega)
      go_wp2_with fail
      refine (is_other _ _ _ _ _ _ _ (E.ne c (i + 1) h1 h2 (by omega) (by omega) (fun h => hic h.symm)) hba hbb).mono ?_
      rintro e w' ⟨rfl, rfl⟩
      go_wp2_with fail
      go_round
      case rel => exact ⟨rfl, i + 1, by omega, by go_num⟩
      case measure => simp [intOf]; omega

set_option maxRecDepth 100000 in
set_option maxHeartbeats 2000000 in
theorem code_fault (c : Nat) (h1 : 1 ≤ c) (h2 : c ≤ 10) (b : Nat) (at_ : Int) (w : World) (ea : Nat → Addr) (E : ErrsAll w ea) (hb0 : w.cell? ⟨b, 0, none⟩ = some (.int .i64 at_)) (hb1 : w.cell? ⟨b, 1, none⟩ = some (errV ea c)) :
    Calls Tryz.prog 23 #[.iface 86 (.pointer (some ⟨b, 0, none⟩))] w fun e w' => e = .returned (.tuple #[.int .i64 c, .int .i64 at_]) ∧ Keeps (fun _ => False) w w' := by
  have K0 := (Keeps.refl (fun _ => False) w).alloc (.cells #[.pointer none] 86)
  have ht0 : (w.alloc (.cells #[.pointer none] 86)).cell? ⟨w.heap.size, 0, none⟩ = some (.pointer none) := by simp
  unfold errV at hb1
  go_enter Tryz.func23, Tryz.ntmps23
  go_wp2_with fail
  refine (as_hit _ _ _ _ (E.quiet K0).type ht0 (by simp)).mono ?_
  rintro e w3 ⟨rfl, hw3⟩
  have K3 : Keeps (fun _ => False) w w3 := by rw [hw3]; exact ((((K0.alloc _).alloc _).alloc _).alloc _).setCell (a := ⟨w.heap.size, 0, none⟩) (fun h => absurd h (Nat.lt_irrefl _)) _
  have hf3 : w3.cell? ⟨w.heap.size, 0, none⟩ = some (.pointer (some ⟨b, 0, none⟩)) := by
    have hz := blk_alloc_new w (.cells #[.pointer none] 86)
    have hl : w.heap.size < (w.alloc (.cells #[.pointer none] 86)).heap.size := (Array.getElem?_eq_some_iff.1 hz).1
    have kk : ∀ o1 o2 o3 o4, Keeps (fun _ => False) (w.alloc (.cells #[.pointer none] 86)) (((((w.alloc (.cells #[.pointer none] 86)).alloc o1).alloc o2).alloc o3).alloc o4) := fun o1 o2 o3 o4 => ((((Keeps.refl _ _).alloc o1).alloc o2).alloc o3).alloc o4
    rw [hw3]
    exact cell_set (old := .nilIface) (((kk _ _ _ _).block _ hl (fun h => h)).trans hz) (by simp)
  have hd0 := K3.cell' hb0 (fun h => h)
  have hd1 := K3.cell' hb1 (fun h => h)
  clear hw3 ht0 K0
  have E3 := E.quiet K3
  have g1 : w3.cell? ⟨gOf 1, 0, none⟩ = some (.iface 168 (.pointer (some (ea 1)))) := E3.cell 1 (by omega) (by omega)
  have g2 : w3.cell? ⟨gOf 2, 0, none⟩ = some (.iface 168 (.pointer (some (ea 2)))) := E3.cell 2 (by omega) (by omega)
  have g3 : w3.cell? ⟨gOf 3, 0, none⟩ = some (.iface 168 (.pointer (some (ea 3)))) := E3.cell 3 (by omega) (by omega)
  have g4 : w3.cell? ⟨gOf 4, 0, none⟩ = some (.iface 168 (.pointer (some (ea 4)))) := E3.cell 4 (by omega) (by omega)
  have g5 : w3.cell? ⟨gOf 5, 0, none⟩ = some (.iface 168 (.pointer (some (ea 5)))) := E3.cell 5 (by omega) (by omega)
  have g6 : w3.cell? ⟨gOf 6, 0, none⟩ = some (.iface 168 (.pointer (some (ea 6)))) := E3.cell 6 (by omega) (by omega)
  have g7 : w3.cell? ⟨gOf 7, 0, none⟩ = some (.iface 168 (.pointer (some (ea 7)))) := E3.cell 7 (by omega) (by omega)
  have g8 : w3.cell? ⟨gOf 8, 0, none⟩ = some (.iface 168 (.pointer (some (ea 8)))) := E3.cell 8 (by omega) (by omega)
  have g9 : w3.cell? ⟨gOf 9, 0, none⟩ = some (.iface 168 (.pointer (some (ea 9)))) := E3.cell 9 (by omega) (by omega)
  have g10 : w3.cell? ⟨gOf 10, 0, none⟩ = some (.iface 168 (.pointer (some (ea 10)))) := E3.cell 10 (by omega) (by omega)
  simp only [gOf] at g1 g2 g3 g4 g5 g6 g7 g8 g9 g10
  have hten := fun i hi => ten_cells w3 ea 26 i hi
  go_wp2_with fail
  have K4 := K3.alloc (.cells #[.iface 168 (.pointer (some (ea 1))), .iface 168 (.pointer (some (ea 2))), .iface 168 (.pointer (some (ea 3))), .iface 168 (.pointer (some (ea 4))), .iface 168 (.pointer (some (ea 5))), .iface 168 (.pointer (some (ea 6))), .iface 168 (.pointer (some (ea 7))), .iface 168 (.pointer (some (ea 8))), .iface 168 (.pointer (some (ea 9))), .iface 168 (.pointer (some (ea 10)))] 26)
  generalize w3.alloc (.cells #[.iface 168 (.pointer (some (ea 1))), .iface 168 (.pointer (some (ea 2))), .iface 168 (.pointer (some (ea 3))), .iface 168 (.pointer (some (ea 4))), .iface 168 (.pointer (some (ea 5))), .iface 168 (.pointer (some (ea 6))), .iface 168 (.pointer (some (ea 7))), .iface 168 (.pointer (some (ea 8))), .iface 168 (.pointer (some (ea 9))), .iface 168 (.pointer (some (ea 10)))] 26) = w4 at *
  generalize w3.heap.size = B at *
  have E4 := E.quiet K4
  have hd4 := K4.cell' hb1 (fun h => h)
  clear hd0 hd1 g1 g2 g3 g4 g5 g6 g7 g8 g9 g10 E3 K3
  go_loop [3, 28] (fun s3 s28 => s3 = .int .i64 at_ ∧ ∃ i : Nat, i < c ∧ s28 = .int .i64 i) (fun _ s28 => 10 - (intOf s28).toNat)
  case atStart => exact ⟨rfl, 0, by omega, rfl⟩
  case round =>
    obtain ⟨rfl, i, hi, rfl⟩ := hrel
    have hc := hten i (by omega)
    by_cases hic : i + 1 = c
    · subst hic
      go_wp2_with fail
      refine (is_wrap_same b 0 _ _ hd4).mono ?_
      rintro e w' ⟨rfl, rfl⟩
      go_wp2_with fail
      go_ret2
      exact ⟨rfl, K4⟩
    · obtain ⟨ca, ta, hba⟩ := E4.block c h1 h2
      obtain ⟨cb, tb, hbb⟩ := E4.block (i + 1) (by omega) (by omega)
      go_wp2_with fail
      refine (is_wrap_other b 0 _ _ _ _ _ _ _ hd4 (E.ne c (i + 1) h1 h2 (by omega) (by omega) (fun h => hic h.symm)) hba hbb).mono ?_
      rintro e w' ⟨rfl, rfl⟩
      go_wp2_with fail
      go_round
      case rel => exact ⟨rfl, i + 1, by omega, by go_num⟩
      case measure => simp [intOf]; omega

set_option maxRecDepth 100000 in
set_option maxHeartbeats 2000000 in
theorem code_other (a : Addr) (ca : Array Value) (ta : TypeId) (w : World) (ea : Nat → Addr) (E : ErrsAll w ea) (hne : ∀ c, 1 ≤ c → c ≤ 10 → a ≠ ea c) (hba : w.heap[a.block]? = some (.cells ca ta (0, 0))) :
    Calls Tryz.prog 23 #[.iface 168 (.pointer (some a))] w fun e w' => e = .returned (.tuple #[.int .i64 (-1), .int .i64 (-1)]) ∧ Keeps (fun _ => False) w w' := by
  have K0 := (Keeps.refl (fun _ => False) w).alloc (.cells #[.pointer none] 86)
  have ht0 : (w.alloc (.cells #[.pointer none] 86)).cell? ⟨w.heap.size, 0, none⟩ = some (.pointer none) := by simp
  go_enter Tryz.func23, Tryz.ntmps23
  go_wp2_with fail
  refine (as_miss _ _ _ _ (E.quiet K0).type ht0 (by simp)).mono ?_
  rintro e w3 ⟨rfl, hw3⟩
  have K3 : Keeps (fun _ => False) w w3 := by rw [hw3]; exact ((K0.alloc _).alloc _).alloc _
  clear hw3 ht0 K0
  have E3 := E.quiet K3
  have g1 : w3.cell? ⟨gOf 1, 0, none⟩ = some (.iface 168 (.pointer (some (ea 1)))) := E3.cell 1 (by omega) (by omega)
  have g2 : w3.cell? ⟨gOf 2, 0, none⟩ = some (.iface 168 (.pointer (some (ea 2)))) := E3.cell 2 (by omega) (by omega)
  have g3 : w3.cell? ⟨gOf 3, 0, none⟩ = some (.iface 168 (.pointer (some (ea 3)))) := E3.cell 3 (by omega) (by omega)
  have g4 : w3.cell? ⟨gOf 4, 0, none⟩ = some (.iface 168 (.pointer (some (ea 4)))) := E3.cell 4 (by omega) (by omega)
  have g5 : w3.cell? ⟨gOf 5, 0, none⟩ = some (.iface 168 (.pointer (some (ea 5)))) := E3.cell 5 (by omega) (by omega)
  have g6 : w3.cell? ⟨gOf 6, 0, none⟩ = some (.iface 168 (.pointer (some (ea 6)))) := E3.cell 6 (by omega) (by omega)
  have g7 : w3.cell? ⟨gOf 7, 0, none⟩ = some (.iface 168 (.pointer (some (ea 7)))) := E3.cell 7 (by omega) (by omega)
  have g8 : w3.cell? ⟨gOf 8, 0, none⟩ = some (.iface 168 (.pointer (some (ea 8)))) := E3.cell 8 (by omega) (by omega)
  have g9 : w3.cell? ⟨gOf 9, 0, none⟩ = some (.iface 168 (.pointer (some (ea 9)))) := E3.cell 9 (by omega) (by omega)
  have g10 : w3.cell? ⟨gOf 10, 0, none⟩ = some (.iface 168 (.pointer (some (ea 10)))) := E3.cell 10 (by omega) (by omega)
  simp only [gOf] at g1 g2 g3 g4 g5 g6 g7 g8 g9 g10
  have hten := fun i hi => ten_cells w3 ea 26 i hi
  go_wp2_with fail
  have K4 := K3.alloc (.cells #[.iface 168 (.pointer (some (ea 1))), .iface 168 (.pointer (some (ea 2))), .iface 168 (.pointer (some (ea 3))), .iface 168 (.pointer (some (ea 4))), .iface 168 (.pointer (some (ea 5))), .iface 168 (.pointer (some (ea 6))), .iface 168 (.pointer (some (ea 7))), .iface 168 (.pointer (some (ea 8))), .iface 168 (.pointer (some (ea 9))), .iface 168 (.pointer (some (ea 10)))] 26)
  generalize w3.alloc (.cells #[.iface 168 (.pointer (some (ea 1))), .iface 168 (.pointer (some (ea 2))), .iface 168 (.pointer (some (ea 3))), .iface 168 (.pointer (some (ea 4))), .iface 168 (.pointer (some (ea 5))), .iface 168 (.pointer (some (ea 6))), .iface 168 (.pointer (some (ea 7))), .iface 168 (.pointer (some (ea 8))), .iface 168 (.pointer (some (ea 9))), .iface 168 (.pointer (some (ea 10)))] 26) = w4 at *
  generalize w3.heap.size = B at *
  have E4 := E.quiet K4
  have hb4 := (K4.block _ (Array.getElem?_eq_some_iff.1 hba).1 (fun h => h)).trans hba
  clear g1 g2 g3 g4 g5 g6 g7 g8 g9 g10 E3 K3
  go_loop [3, 28] (fun s3 s28 => s3 = .int .i64 (-1) ∧ ∃ i : Nat, i ≤ 10 ∧ s28 = .int .i64 i) (fun _ s28 => 10 - (intOf s28).toNat)
  case atStart => exact ⟨rfl, 0, by omega, rfl⟩
  case round =>
    obtain ⟨rfl, i, hi, rfl⟩ := hrel
    by_cases hic : i < 10
    · have hc := hten i hic
      obtain ⟨cb, tb, hbb⟩ := E4.block (i + 1) (by omega) (by omega)
      go_wp2_with fail
      refine (is_other _ _ _ _ _ _ _ (hne (i + 1) (by omega) (by omega)) hb4 hbb).mono ?_
      rintro e w' ⟨rfl, rfl⟩
      go_wp2_with fail
      go_round
      case rel => exact ⟨rfl, i + 1, by omega, by go_num⟩
      case measure => simp [intOf]; omega
    · obtain rfl : i = 10 := by omega
      go_wp2_with fail
      go_ret2
      exact ⟨rfl, K4⟩
end Go.Proofs.YtlmnmncdoiealaaGreatDoor

/- FaultedK -/
/- The walks of the law's coded, faulted: cut out of XCoded. -/
namespace Go.Proofs.YtlmnmncdoiealaaGreatDoor
open Go.RowKit Go.Deep
set_option linter.unusedVariables false
set_option linter.unusedSimpArgs false

theorem ErrsAll.toC {w : World} {ea : Nat → Addr} (E : ErrsAll w ea) : ErrsC w ea := ⟨E.cell 2 (by omega) (by omega), E.cell 3 (by omega) (by omega), E.cell 4 (by omega) (by omega), E.cell 8 (by omega) (by omega)⟩
set_option maxHeartbeats 1000000 in
theorem coded_any (c : Nat) (h1 : 1 ≤ c) (h2 : c ≤ 10) (w : World) (ea : Nat → Addr) (E : ErrsAll w ea) :
    Calls Tryz.prog 6 #[errV ea c, .int .i64 c] w fun e w' => e = .returned (.bool true) ∧ Keeps (fun _ => False) w w' := by
  have HC := Lib.hid (code_sent c h1 h2 w ea E)
  unfold errV at HC ⊢
  clear E
  go_enter Tryz.func6, Tryz.ntmps6
  go_wp2_with fail
  refine HC.out.mono ?_
  rintro e w1 ⟨rfl, hk⟩
  have HK := Lib.hid hk
  clear hk
  go_wp2_with fail
  go_ret
  exact ⟨rfl, HK.out⟩
set_option maxHeartbeats 2000000 in
theorem faulted_any (f : Nat × Int) (hf : f.1 = 0 ∨ (1 ≤ f.1 ∧ f.1 ≤ 10)) (v : Value) (w : World) (ea : Nat → Addr) (E : ErrsAll w ea) (F : FaultIs w ea f v) :
    Calls Tryz.prog 9 #[v, faultV f] w fun e w' => e = .returned (.bool true) ∧ Keeps (fun _ => False) w w' := by
  obtain ⟨c, a⟩ := f
  have HB := Lib.hid (FaultBox.new w c a)
  have HK0 := Lib.hid ((Keeps.refl (fun _ => False) w).alloc (.cells #[.int .i64 c, .int .i64 a] 42))
  have HE := Lib.hid E
  clear E
  unfold faultV
  dsimp only
  simp only at hf F
  rcases F with ⟨h0, rfl⟩ | ⟨h0, h1, rfl⟩ | ⟨h0, h1, b, rfl, hb0, hb1⟩
  · obtain rfl : c = 0 := h0
    go_enter Tryz.func9, Tryz.ntmps9
    go_upto_region 1 with fail
    obtain ⟨c0, c1, _, _⟩ := HB.out.cells
    have HK1 := Lib.hid HK0.out
    generalize w.alloc _ = w1 at *
    generalize w.heap.size = x at *
    go_wp2_with fail
    refine (code_nil _).mono ?_
    rintro e w2 ⟨rfl, rfl⟩
    go_wp2_with fail
    go_ret
    exact ⟨rfl, HK1.out⟩
  · have h0 : c ≠ 0 := h0
    have h1 : a = -1 := h1
    subst h1
    have hc1 : 1 ≤ c := by omega
    have hc2 : c ≤ 10 := by omega
    have t0 : ((c : Int) == 0) = false := by simp; omega
    have HC := Lib.hid (fun w' (k : Keeps (fun _ => False) w w') => code_sent c hc1 hc2 w' ea (HE.out.quiet k))
    unfold errV at HC ⊢
    clear hf h0 hc1 hc2
    go_enter Tryz.func9, Tryz.ntmps9
    go_upto_region 1 with fail
    have HC1 := Lib.hid (HC.out _ HK0.out)
    have HB1 := Lib.hid HB.out
    have HK1 := Lib.hid HK0.out
    clear HC HB HK0
    generalize w.alloc _ = w1 at *
    obtain ⟨x, hx⟩ : ∃ x, w.heap.size = x := ⟨_, rfl⟩
    rw [hx] at HB1 ⊢
    clear hx
    go_wp2_with fail
    refine HC1.out.mono ?_
    rintro e w2 ⟨rfl, hk⟩
    obtain ⟨c0, c1, _, _⟩ := (HB1.out.keep hk (fun h => h)).cells
    have HK2 := Lib.hid (HK1.out.trans hk (fun _ _ h => h))
    clear hk
    go_wp2_with fail
    go_ret
    exact ⟨rfl, HK2.out⟩
  · have h0 : c ≠ 0 := h0
    have hc1 : 1 ≤ c := by omega
    have hc2 : c ≤ 10 := by omega
    have t0 : ((c : Int) == 0) = false := by simp; omega
    have HC := Lib.hid (fun w' (k : Keeps (fun _ => False) w w') => code_fault c hc1 hc2 b a w' ea (HE.out.quiet k) (k.cell' hb0 (fun h => h)) (k.cell' hb1 (fun h => h)))
    clear hf h0 h1 hc1 hc2 hb0 hb1
    go_enter Tryz.func9, Tryz.ntmps9
    go_upto_region 1 with fail
    have HC1 := Lib.hid (HC.out _ HK0.out)
    have HB1 := Lib.hid HB.out
    have HK1 := Lib.hid HK0.out
    clear HC HB HK0
    generalize w.alloc _ = w1 at *
    obtain ⟨x, hx⟩ : ∃ x, w.heap.size = x := ⟨_, rfl⟩
    rw [hx] at HB1 ⊢
    clear hx
    go_wp2_with fail
    refine HC1.out.mono ?_
    rintro e w2 ⟨rfl, hk⟩
    obtain ⟨c0, c1, _, _⟩ := (HB1.out.keep hk (fun h => h)).cells
    have HK2 := Lib.hid (HK1.out.trans hk (fun _ _ h => h))
    clear hk
    go_wp2_with fail
    go_ret
    exact ⟨rfl, HK2.out⟩
end Go.Proofs.YtlmnmncdoiealaaGreatDoor

/- KeepE -/
/- Words alike, rows that are the same, Put of a wrong plan, New of a wrong number. -/
namespace Go.Proofs.YtlmnmncdoiealaaGreatDoor
open Go.RowKit Go.Deep
set_option linter.unusedVariables false
set_option linter.unusedSimpArgs false

theorem UOwn.reads {w : World} {B : Nat} {l : List Int} {A : Option Addr} {n cap : Nat} (h : UOwn w B l (.slice A n cap)) : n = l.length ∧ cap ≤ 9223372036854775807 ∧ Reads w A n cap (fun i => .int .u32 (l.getD i 0)) := by
  obtain ⟨A', c', e, ho⟩ := h
  injection e with e1 e2 e3
  subst e1 e2 e3
  refine ⟨rfl, owns_cap ho, ?_⟩
  obtain ⟨hlen, ⟨h4, h5⟩ | ⟨g, cap', cur, h4, h5, h6, h7, h8, h9, h10⟩⟩ := ho
  · injection h4 with e1 e2 e3
    subst e3
    exact ⟨by omega, .inl rfl⟩
  · injection h4 with e1 e2 e3
    subst e1 e3
    refine ⟨h7, .inr ⟨g, 0, rfl, (Array.getElem?_eq_some_iff.1 h6).1, fun i hi => ?_⟩⟩
    have e : (l.map fun x => Value.int .u32 x)[i]? = some (.int .u32 (l.getD i 0)) := by
      rw [List.getElem?_map, List.getD_eq_getElem?_getD, List.getElem?_eq_getElem hi]
      rfl
    rw [← h10, List.getElem?_take_of_lt (by omega)] at e
    rw [Nat.zero_add]
    unfold World.cell?
    rw [h6]
    simpa using e
set_option maxRecDepth 100000 in
set_option maxHeartbeats 1000000 in
theorem alikeU_any (A B : Option Addr) (n ca cb : Nat) (f : Nat → Int) (w : World) (h1 : Reads w A n ca (fun i => .int .u32 (f i))) (h2 : Reads w B n cb (fun i => .int .u32 (f i))) (hca : ca ≤ 9223372036854775807) (hcb : cb ≤ 9223372036854775807) :
    Calls Tryz.prog 16 #[.slice A n ca, .slice B n cb] w fun e w' => e = .returned (.int .i64 1) ∧ Keeps (fun _ => False) w w' := by
  have b1 := h1.1
  have b2 := h2.1
  have H1 := Lib.hid h1
  have H2 := Lib.hid h2
  clear h1 h2
  go_enter Tryz.func16, Tryz.ntmps16
  go_wp2_with fail
  go_loopw [5] (fun s5 wr => ∃ i : Nat, i ≤ n ∧ s5 = .int .i64 i ∧ Keeps (fun _ => False) w wr) (fun s5 _ => n - (intOf s5).toNat)
  case atStart => exact ⟨0, by omega, rfl, Keeps.refl _ w⟩
  case round =>
    obtain ⟨i, hi, rfl, hK⟩ := hrel
    by_cases hlt : i < n
    · obtain ⟨ga, oa, rfl, p1⟩ : ∃ g o, A = some ⟨g, o, none⟩ ∧ wr.cell? ⟨g, o + i, none⟩ = some (.int .u32 (f i)) := by
        obtain ⟨_, h3 | ⟨g, o, h3, _, h4⟩⟩ := H1.out.keep hK (fun _ _ _ h => h)
        · omega
        · exact ⟨g, o, h3, h4 i hlt⟩
      obtain ⟨gb, ob, rfl, p2⟩ : ∃ g o, B = some ⟨g, o, none⟩ ∧ wr.cell? ⟨g, o + i, none⟩ = some (.int .u32 (f i)) := by
        obtain ⟨_, h3 | ⟨g, o, h3, _, h4⟩⟩ := H2.out.keep hK (fun _ _ _ h => h)
        · omega
        · exact ⟨g, o, h3, h4 i hlt⟩
      go_wp2_with fail
      go_quiet (fail)
      go_wp2_with fail
      go_roundw
      case rel => exact ⟨i + 1, by omega, by go_num, hK.drewN _⟩
      case measure => simp [intOf]; omega
    · obtain rfl : i = n := by omega
      go_wp2_with fail
      go_ret
      exact ⟨rfl, hK⟩
set_option maxRecDepth 100000 in
set_option maxHeartbeats 4000000 in
theorem sameRowsK_any (A B : Option Addr) (n ca cb : Nat) (rows : List (List Ir.Op)) (w : World) (VA : RowsAt w A n ca rows) (VB : RowsAt w B n cb rows) (hca : ca ≤ 9223372036854775807) (hcb : cb ≤ 9223372036854775807) :
    Calls Tryz.prog 15 #[.slice A n ca, .slice B n cb] w fun e w' => e = .returned (.bool true) ∧ Keeps (fun _ => False) w w' := by
  have b1 := VA.le
  have b2 := VB.le
  have HA := Lib.hid VA
  have HB := Lib.hid VB
  clear VA VB
  go_enter Tryz.func15, Tryz.ntmps15
  go_wp2_with fail
  go_loopw [4, 5] (fun s4 s5 wr => ∃ i : Nat, i ≤ n ∧ s5 = .int .i64 i ∧ s4 = .bool false ∧ Keeps (fun _ => False) w wr) (fun _ s5 _ => n - (intOf s5).toNat)
  case atStart => exact ⟨0, by omega, rfl, rfl, Keeps.refl _ w⟩
  case round =>
    obtain ⟨i, hi, rfl, rfl, hK⟩ := hrel
    have HK := Lib.hid hK
    clear hK
    by_cases hlt : i < n
    · obtain ⟨ba, oa, Aa, cca, rfl, p0, p1, p2⟩ := (HA.out.quiet HK.out).get hlt
      obtain ⟨bb, ob, Ab, ccb, rfl, r0, r1, r2⟩ := (HB.out.quiet HK.out).get hlt
      obtain ⟨l, hl⟩ : ∃ l, rows.getD i [] = l := ⟨_, rfl⟩
      rw [hl] at p0 p1 r0 r1
      have HSO := Lib.hid (fun w' (k : Keeps (fun _ => False) wr w') => sameOps_same Aa Ab l.length cca ccb l w' (p1.quiet k) (r1.quiet k) p2 r2)
      obtain ⟨ln, hln⟩ : ∃ z, l.length = z := ⟨_, rfl⟩
      rw [hln] at p0 r0 HSO
      clear hl hln p1 r1
      have hi63 : (i : Int) < n := by omega
      go_upto_region 6 with fail
      refine wp_region_held_drew (S := fun w' => Keeps (fun _ => False) wr w') (by kernel_rfl) (Keeps.refl _ wr).drew (fun hH0 => ?_)
      refine wpAnyH_take (i := 0) (v := ?_) rfl (by kernel_rfl) (by kernel_rfl) (by kernel_rfl) (fun _ _ _ h => h) (Or.inl ⟨by go_simp, ?_⟩) hH0 ?_
      rotate_left
      · intro w' hSw
        go_simp
        try with_reducible rfl
      simp only [Act.put, List.getElem_toArray, List.getElem_cons_zero, List.getElem_cons_succ, List.setIfInBounds_toArray, List.set_cons_zero, List.set_cons_succ]
      refine wpAnyH_take (i := 1) (v := ?_) rfl (by kernel_rfl) (by kernel_rfl) (by kernel_rfl) (fun _ _ _ h => h) (Or.inl ⟨by go_simp, ?_⟩) hH0 ?_
      rotate_left
      · intro w' hSw
        go_simp
        try with_reducible rfl
      simp only [Act.put, List.getElem_toArray, List.getElem_cons_zero, List.getElem_cons_succ, List.setIfInBounds_toArray, List.set_cons_zero, List.set_cons_succ]
      refine wpAnyH_take (i := 2) (v := ?_) rfl (by kernel_rfl) (by kernel_rfl) (by kernel_rfl) (fun _ _ _ h => h) (Or.inl ⟨by go_simp, ?_⟩) hH0 ?_
      rotate_left
      · intro w' hSw
        go_simp
        try with_reducible rfl
      simp only [Act.put, List.getElem_toArray, List.getElem_cons_zero, List.getElem_cons_succ, List.setIfInBounds_toArray, List.set_cons_zero, List.set_cons_succ]
      refine wpAnyH_take (i := 3) (v := ?_) rfl (by kernel_rfl) (by kernel_rfl) (by kernel_rfl) (fun _ _ _ h => h) (Or.inl ⟨by go_simp, ?_⟩) hH0 ?_
      rotate_left
      · intro w' hSw
        have q0 := Keeps.cell' hSw p0 (fun h => h)
        go_simp
        try with_reducible rfl
      simp only [Act.put, List.getElem_toArray, List.getElem_cons_zero, List.getElem_cons_succ, List.setIfInBounds_toArray, List.set_cons_zero, List.set_cons_succ]
      refine wpAnyH_take (i := 4) (v := ?_) rfl (by kernel_rfl) (by kernel_rfl) (by kernel_rfl) (fun _ _ _ h => h) (Or.inl ⟨by go_simp, ?_⟩) hH0 ?_
      rotate_left
      · intro w' hSw
        go_simp
        try with_reducible rfl
      simp only [Act.put, List.getElem_toArray, List.getElem_cons_zero, List.getElem_cons_succ, List.setIfInBounds_toArray, List.set_cons_zero, List.set_cons_succ]
      refine wpAnyH_take (i := 5) (v := ?_) rfl (by kernel_rfl) (by kernel_rfl) (by kernel_rfl) (fun _ _ _ h => h) (Or.inl ⟨by go_simp, ?_⟩) hH0 ?_
      rotate_left
      · intro w' hSw
        go_simp
        try with_reducible rfl
      simp only [Act.put, List.getElem_toArray, List.getElem_cons_zero, List.getElem_cons_succ, List.setIfInBounds_toArray, List.set_cons_zero, List.set_cons_succ]
      refine wpAnyH_take (i := 6) (v := ?_) rfl (by kernel_rfl) (by kernel_rfl) (by kernel_rfl) (fun _ _ _ h => h) (Or.inl ⟨by go_simp, ?_⟩) hH0 ?_
      rotate_left
      · intro w' hSw
        go_simp
        try with_reducible rfl
      simp only [Act.put, List.getElem_toArray, List.getElem_cons_zero, List.getElem_cons_succ, List.setIfInBounds_toArray, List.set_cons_zero, List.set_cons_succ]
      refine wpAnyH_take (i := 7) (v := ?_) rfl (by kernel_rfl) (by kernel_rfl) (by kernel_rfl) (fun _ _ _ h => h) (Or.inl ⟨by go_simp, ?_⟩) hH0 ?_
      rotate_left
      · intro w' hSw
        have q0 := Keeps.cell' hSw r0 (fun h => h)
        go_simp
        try with_reducible rfl
      simp only [Act.put, List.getElem_toArray, List.getElem_cons_zero, List.getElem_cons_succ, List.setIfInBounds_toArray, List.set_cons_zero, List.set_cons_succ]
      refine wpAnyH_ready (rs := [8]) (by kernel_rfl) (by simp) ?_
      refine AllReadyH.cons rfl (fun K hK => ?_) AllReadyH.nil
      go_simp
      refine (HSO.out _ hH0).mono ?_
      rintro e w5 ⟨rfl, hk5⟩
      go_wp2_with fail
      have hH1 := hH0.trans hk5 (fun _ _ h => h)
      refine hK.out _ _ hH1 (fun _ => ?_)
      clear hK K
      try simp only [Act.put, List.getElem_toArray, List.getElem_cons_zero, List.getElem_cons_succ, List.setIfInBounds_toArray, List.set_cons_zero, List.set_cons_succ]
      refine wpAnyH_take (i := 9) (v := ?_) rfl (by kernel_rfl) (by kernel_rfl) (by kernel_rfl) (fun _ _ _ h => h) (Or.inl ⟨by go_simp, ?_⟩) hH1 ?_
      rotate_left
      · intro w' hSw
        go_simp
        try with_reducible rfl
      simp only [Act.put, List.getElem_toArray, List.getElem_cons_zero, List.getElem_cons_succ, List.setIfInBounds_toArray, List.set_cons_zero, List.set_cons_succ]
      refine wpAnyH_done (by kernel_rfl) ?_ _
      have HKF := Lib.hid (HK.out.trans hH1 (fun _ _ h => h))
      go_wp2_with fail
      go_roundw
      case rel => exact ⟨i + 1, by omega, by go_num, rfl, HKF.out⟩
      case measure => simp [intOf]; omega
    · obtain rfl : i = n := by omega
      go_wp2_with fail
      go_ret
      exact ⟨rfl, HK.out⟩
set_option maxHeartbeats 4000000 in
set_option maxRecDepth 100000 in
/-- Put of a wrong plan changes nothing -/
theorem keepPut_bad (B kb : Nat) (mx : Int) (l : List K4) (pg : K4 → List Int) (rw : K4 → List (List Ir.Op)) (pc many : Int) (A : Option Addr) (n cap : Nat) (rows : List (List Ir.Op)) (pv : Value) (w : World) (ea : Nat → Addr) (E : ErrsR w ea) (K : KeepAt w B kb mx l pg rw)
    (V : RowsAt w A n cap rows) (hc : cap ≤ 9223372036854775807) (hf : (Ir.planFault many rows).1 ≠ 0) :
    Calls Tryz.prog 10 #[.pointer (some ⟨kb, 0, none⟩), .agg #[.int .u32 pc, .int .i64 many, .slice A n cap], pv] w fun e w' => ∃ v, e = .returned v ∧ FaultIs w' ea (Ir.planFault many rows) v ∧ Keeps (fun _ => False) w w' := by
  have HCK := Lib.hid (fun w' (k : Keeps (fun _ => False) w w') => planCheck_any pc many A n cap rows w' ea (E.quiet k) (V.quiet k) hc)
  have HPB := Lib.hid (PlanBox.new w pc many A n cap)
  have HA := Lib.hid ((Keeps.refl (fun _ => False) w).alloc (.cells #[.int .u32 pc, .int .i64 many, .slice A n cap] 48))
  have HFZ := Lib.hid hf
  clear K V hf E
  go_enter Tryz.func10, Tryz.ntmps10
  go_upto_region 1 with fail
  generalize w.alloc _ = w1 at *
  generalize w.heap.size = pb at *
  obtain ⟨d0, d1, d2, _⟩ := HPB.out.cells
  go_wp2_with fail
  refine (HCK.out w1 HA.out).mono ?_
  rintro e w2 ⟨⟨v, rfl, hv⟩, hk2⟩
  have HV := Lib.hid hv
  have HK2 := Lib.hid (HA.out.trans hk2 (fun _ _ h => h))
  obtain ⟨t, u, rfl⟩ : ∃ t u, v = .iface t (.pointer (some u)) := by
    rcases hv.parts with h | h
    · exact absurd h.1 HFZ.out
    · exact h.2
  clear hv hk2 d0 d1 d2
  go_wp2_with fail
  go_ret
  exact ⟨_, rfl, HV.out, HK2.out⟩
theorem keepNew_bad (mx : Int) (w : World) (ea : Nat → Addr) (hb : w.cell? ⟨0, 0, none⟩ = some (errV ea 2)) (h : ¬ (1 ≤ mx ∧ mx ≤ 40)) :
    Calls Tryz.prog 5 #[.int .i64 mx] w fun e w' => e = .returned (.tuple #[.pointer none, errV ea 2]) ∧ Keeps (fun _ => False) w w' := by
  by_cases h1 : mx < 1
  · have t1 : decide (mx < 1) = true := decide_eq_true h1
    clear h
    go_enter Tryz.func5, Tryz.ntmps5
    go_wp2_with fail
    go_quiet (fail)
    go_wp2_with fail
    go_ret2
    exact ⟨rfl, (Keeps.refl (fun _ => False) w).drewN _⟩
  · have t1 : decide (mx < 1) = false := decide_eq_false h1
    have t2 : decide (40 < mx) = true := decide_eq_true (by omega)
    clear h
    go_enter Tryz.func5, Tryz.ntmps5
    go_wp2_with fail
    go_quiet (fail)
    go_wp2_with fail
    go_ret2
    exact ⟨rfl, (Keeps.refl (fun _ => False) w).drewN _⟩
end Go.Proofs.YtlmnmncdoiealaaGreatDoor
