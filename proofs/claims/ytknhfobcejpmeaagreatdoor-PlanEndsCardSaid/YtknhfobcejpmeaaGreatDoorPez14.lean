import Derived.Test.YtknhfobcejpmeaaGreatDoorPez13
import Derived.Test.YtknhfobcejpmeaaGreatDoorErr
import Derived.Test.YtknhfobcejpmeaaGreatDoorPez01
import Derived.Laws.Rows
import Derived.BigQuiet
import Derived.Test.YtknhfobcejpmeaaGreatDoorPez04
import Derived.Test.YtknhfobcejpmeaaGreatDoorPez00
import Derived.Maps.OwnOps
import Derived.Maps.OwnSet

/- Code -/
/- The walk of plain.Code. -/
namespace Go.Proofs.YtknhfobcejpmeaaGreatDoor
open Go.RowKit Go.Deep
set_option linter.unusedVariables false

/-- the variable of an error's number -/
def gOf : Nat → Nat
  | 1 => 4
  | 2 => 2
  | 3 => 0
  | 4 => 5
  | 5 => 6
  | 6 => 7
  | 7 => 8
  | 8 => 3
  | 9 => 1
  | _ => 9
/-- all ten errors as they lie, and the handle that errors.As looks at -/
structure ErrsAll (w : World) (ea : Nat → Addr) : Prop where
  cell : ∀ c, 1 ≤ c → c ≤ 10 → w.cell? ⟨gOf c, 0, none⟩ = some (errV ea c)
  block : ∀ c, 1 ≤ c → c ≤ 10 → ∃ cs t, w.heap[(ea c).block]? = some (.cells cs t (0, 0))
  ne : ∀ c d, 1 ≤ c → c ≤ 10 → 1 ≤ d → d ≤ 10 → c ≠ d → ea c ≠ ea d
  type : w.cell? ⟨10, 0, none⟩ = some (.iface 245 (.agg #[.pointer (some ⟨12, 37, none⟩)]))
theorem ErrsAll.three {w : World} {ea : Nat → Addr} (E : ErrsAll w ea) : Errs3 w ea := ⟨E.cell 3 (by omega) (by omega), E.cell 9 (by omega) (by omega), E.cell 10 (by omega) (by omega)⟩
theorem ErrsAll.keep {w w' : World} {ea : Nat → Addr} {S : Nat → Prop} (E : ErrsAll w ea) (k : Keeps S w w') (hS : ∀ b, b < 12 → ¬ S b) (h : ∀ c, 1 ≤ c → c ≤ 10 → ¬ S (ea c).block) : ErrsAll w' ea where
  cell := fun c h1 h2 => k.cell' (E.cell c h1 h2) (hS _ (by
    have : c = 1 ∨ c = 2 ∨ c = 3 ∨ c = 4 ∨ c = 5 ∨ c = 6 ∨ c = 7 ∨ c = 8 ∨ c = 9 ∨ c = 10 := by omega
    rcases this with rfl | rfl | rfl | rfl | rfl | rfl | rfl | rfl | rfl | rfl <;> decide))
  block := fun c h1 h2 => by
    obtain ⟨cs, t, hb⟩ := E.block c h1 h2
    exact ⟨cs, t, (k.block _ (Array.getElem?_eq_some_iff.1 hb).1 (h c h1 h2)).trans hb⟩
  ne := E.ne
  type := k.cell' E.type (hS _ (by decide))
theorem ErrsAll.quiet {w w' : World} {ea : Nat → Addr} (E : ErrsAll w ea) (k : Keeps (fun _ => False) w w') : ErrsAll w' ea := E.keep k (fun _ _ h => h) (fun _ _ _ h => h)

theorem code_nil (w : World) :
    Calls Tryz.prog 51 #[.nilIface] w fun e w' => e = .returned (.tuple #[.int .i64 0, .int .i64 (-1)]) ∧ w = w' := by
  go_enter Tryz.func51, Tryz.ntmps51
  go_wp2_with fail
  go_ret2
  exact ⟨rfl, rfl⟩

theorem cell_set {w : World} {b o : Nat} {old v : Value} {T : TypeId} {cs : Array Value} {fz : Nat × Nat} (h : w.heap[b]? = some (.cells cs T fz)) (ho : o < cs.size) : (w.setCell ⟨b, o, none⟩ v).cell? ⟨b, o, none⟩ = some v := by
  have h2 : (w.setCell ⟨b, o, none⟩ v).heap[b]? = some (.cells (cs.setIfInBounds o v) T fz) := by simp [World.setCell, Array.getElem?_modify, h]
  unfold World.cell?
  rw [h2]
  simp [ho]
/-- the ten errors in a row -/
theorem ten_cells (w : World) (ea : Nat → Addr) (T : TypeId) (i : Nat) (hi : i < 10) :
    (w.alloc (.cells #[.iface 275 (.pointer (some (ea 1))), .iface 275 (.pointer (some (ea 2))), .iface 275 (.pointer (some (ea 3))), .iface 275 (.pointer (some (ea 4))), .iface 275 (.pointer (some (ea 5))), .iface 275 (.pointer (some (ea 6))), .iface 275 (.pointer (some (ea 7))), .iface 275 (.pointer (some (ea 8))), .iface 275 (.pointer (some (ea 9))), .iface 275 (.pointer (some (ea 10)))] T)).cell? ⟨w.heap.size, i, none⟩ = some (.iface 275 (.pointer (some (ea (i + 1))))) := by
  unfold World.cell?
  rw [blk_alloc_new]
  have : i = 0 ∨ i = 1 ∨ i = 2 ∨ i = 3 ∨ i = 4 ∨ i = 5 ∨ i = 6 ∨ i = 7 ∨ i = 8 ∨ i = 9 := by omega
  rcases this with rfl | rfl | rfl | rfl | rfl | rfl | rfl | rfl | rfl | rfl <;> rfl

set_option maxRecDepth 100000 in
set_option maxHeartbeats 2000000 in
theorem code_sent (c : Nat) (h1 : 1 ≤ c) (h2 : c ≤ 10) (w : World) (ea : Nat → Addr) (E : ErrsAll w ea) :
    Calls Tryz.prog 51 #[errV ea c] w fun e w' => e = .returned (.tuple #[.int .i64 c, .int .i64 (-1)]) ∧ Keeps (fun _ => False) w w' := by
  have K0 := (Keeps.refl (fun _ => False) w).alloc (.cells #[.pointer none] 157)
  have ht0 : (w.alloc (.cells #[.pointer none] 157)).cell? ⟨w.heap.size, 0, none⟩ = some (.pointer none) := by simp
  unfold errV
  go_enter Tryz.func51, Tryz.ntmps51
  go_wp2_with fail
  refine (as_miss _ _ _ _ (E.quiet K0).type ht0 (by simp)).mono ?_
  rintro e w3 ⟨rfl, hw3⟩
  have K3 : Keeps (fun _ => False) w w3 := by rw [hw3]; exact ((K0.alloc _).alloc _).alloc _
  clear hw3 ht0 K0
  have E3 := E.quiet K3
  have g1 : w3.cell? ⟨gOf 1, 0, none⟩ = some (.iface 275 (.pointer (some (ea 1)))) := E3.cell 1 (by omega) (by omega)
  have g2 : w3.cell? ⟨gOf 2, 0, none⟩ = some (.iface 275 (.pointer (some (ea 2)))) := E3.cell 2 (by omega) (by omega)
  have g3 : w3.cell? ⟨gOf 3, 0, none⟩ = some (.iface 275 (.pointer (some (ea 3)))) := E3.cell 3 (by omega) (by omega)
  have g4 : w3.cell? ⟨gOf 4, 0, none⟩ = some (.iface 275 (.pointer (some (ea 4)))) := E3.cell 4 (by omega) (by omega)
  have g5 : w3.cell? ⟨gOf 5, 0, none⟩ = some (.iface 275 (.pointer (some (ea 5)))) := E3.cell 5 (by omega) (by omega)
  have g6 : w3.cell? ⟨gOf 6, 0, none⟩ = some (.iface 275 (.pointer (some (ea 6)))) := E3.cell 6 (by omega) (by omega)
  have g7 : w3.cell? ⟨gOf 7, 0, none⟩ = some (.iface 275 (.pointer (some (ea 7)))) := E3.cell 7 (by omega) (by omega)
  have g8 : w3.cell? ⟨gOf 8, 0, none⟩ = some (.iface 275 (.pointer (some (ea 8)))) := E3.cell 8 (by omega) (by omega)
  have g9 : w3.cell? ⟨gOf 9, 0, none⟩ = some (.iface 275 (.pointer (some (ea 9)))) := E3.cell 9 (by omega) (by omega)
  have g10 : w3.cell? ⟨gOf 10, 0, none⟩ = some (.iface 275 (.pointer (some (ea 10)))) := E3.cell 10 (by omega) (by omega)
  simp only [gOf] at g1 g2 g3 g4 g5 g6 g7 g8 g9 g10
  have hten := fun i hi => ten_cells w3 ea 37 i hi
  go_wp2_with fail
  have K4 := K3.alloc (.cells #[.iface 275 (.pointer (some (ea 1))), .iface 275 (.pointer (some (ea 2))), .iface 275 (.pointer (some (ea 3))), .iface 275 (.pointer (some (ea 4))), .iface 275 (.pointer (some (ea 5))), .iface 275 (.pointer (some (ea 6))), .iface 275 (.pointer (some (ea 7))), .iface 275 (.pointer (some (ea 8))), .iface 275 (.pointer (some (ea 9))), .iface 275 (.pointer (some (ea 10)))] 37)
  generalize w3.alloc (.cells #[.iface 275 (.pointer (some (ea 1))), .iface 275 (.pointer (some (ea 2))), .iface 275 (.pointer (some (ea 3))), .iface 275 (.pointer (some (ea 4))), .iface 275 (.pointer (some (ea 5))), .iface 275 (.pointer (some (ea 6))), .iface 275 (.pointer (some (ea 7))), .iface 275 (.pointer (some (ea 8))), .iface 275 (.pointer (some (ea 9))), .iface 275 (.pointer (some (ea 10)))] 37) = w4 at *
  generalize w3.heap.size = B at *
  have E4 := E.quiet K4
  clear g1 g2 g3 g4 g5 g6 g7 g8 g9 g10 E3 K3
  go_loop [3, 28] (fun s3 s28 => s3 = .int .i64 (-1) ∧ ∃ i : Nat, i < c ∧ s28 = .int .i64 i) (fun _ s28 => 10 - (intOf s28).toNat)
  case atStart => exact ⟨rfl, 0, by omega, rfl⟩
  case round =>
    obtain ⟨rfl, i, hi, rfl⟩ := hrel
    have hc := hten i (by omega)
    by_cases hic : i + 1 = c
    · subst hic
      go_wp2_with fail
      refine (is_same _ _).mono ?_
      rintro e w' ⟨rfl, rfl⟩
      go_wp2_with fail
      go_ret2
      exact ⟨rfl, K4⟩
    · obtain ⟨ca, ta, hba⟩ := E4.block c h1 h2
      obtain ⟨cb, tb, hbb⟩ := E4.block (i + 1) (by omega) (by omega)
      go_wp2_with fail
      refine (is_other _ _ _ _ _ _ _ (E.ne c (i + 1) h1 h2 (by omega) (by omega) (fun h => hic h.symm)) hba hbb).mono ?_
      rintro e w' ⟨rfl, rfl⟩
      go_wp2_with fail
      go_round
      case rel => exact ⟨rfl, i + 1, by omega, by go_num⟩
      case measure => simp [intOf]; omega

set_option maxRecDepth 100000 in
set_option maxHeartbeats 2000000 in
theorem code_fault (c : Nat) (h1 : 1 ≤ c) (h2 : c ≤ 10) (b : Nat) (at_ : Int) (w : World) (ea : Nat → Addr) (E : ErrsAll w ea) (hb0 : w.cell? ⟨b, 0, none⟩ = some (.int .i64 at_)) (hb1 : w.cell? ⟨b, 1, none⟩ = some (errV ea c)) :
    Calls Tryz.prog 51 #[.iface 157 (.pointer (some ⟨b, 0, none⟩))] w fun e w' => e = .returned (.tuple #[.int .i64 c, .int .i64 at_]) ∧ Keeps (fun _ => False) w w' := by
  have K0 := (Keeps.refl (fun _ => False) w).alloc (.cells #[.pointer none] 157)
  have ht0 : (w.alloc (.cells #[.pointer none] 157)).cell? ⟨w.heap.size, 0, none⟩ = some (.pointer none) := by simp
  unfold errV at hb1
  go_enter Tryz.func51, Tryz.ntmps51
  go_wp2_with fail
  refine (as_hit _ _ _ _ (E.quiet K0).type ht0 (by simp)).mono ?_
  rintro e w3 ⟨rfl, hw3⟩
  have K3 : Keeps (fun _ => False) w w3 := by rw [hw3]; exact ((((K0.alloc _).alloc _).alloc _).alloc _).setCell (a := ⟨w.heap.size, 0, none⟩) (fun h => absurd h (Nat.lt_irrefl _)) _
  have hf3 : w3.cell? ⟨w.heap.size, 0, none⟩ = some (.pointer (some ⟨b, 0, none⟩)) := by
    have hz := blk_alloc_new w (.cells #[.pointer none] 157)
    have hl : w.heap.size < (w.alloc (.cells #[.pointer none] 157)).heap.size := (Array.getElem?_eq_some_iff.1 hz).1
    have kk : ∀ o1 o2 o3 o4, Keeps (fun _ => False) (w.alloc (.cells #[.pointer none] 157)) (((((w.alloc (.cells #[.pointer none] 157)).alloc o1).alloc o2).alloc o3).alloc o4) := fun o1 o2 o3 o4 => ((((Keeps.refl _ _).alloc o1).alloc o2).alloc o3).alloc o4
    rw [hw3]
    exact cell_set (old := .nilIface) (((kk _ _ _ _).block _ hl (fun h => h)).trans hz) (by simp)
  have hd0 := K3.cell' hb0 (fun h => h)
  have hd1 := K3.cell' hb1 (fun h => h)
  clear hw3 ht0 K0
  have E3 := E.quiet K3
  have g1 : w3.cell? ⟨gOf 1, 0, none⟩ = some (.iface 275 (.pointer (some (ea 1)))) := E3.cell 1 (by omega) (by omega)
  have g2 : w3.cell? ⟨gOf 2, 0, none⟩ = some (.iface 275 (.pointer (some (ea 2)))) := E3.cell 2 (by omega) (by omega)
  have g3 : w3.cell? ⟨gOf 3, 0, none⟩ = some (.iface 275 (.pointer (some (ea 3)))) := E3.cell 3 (by omega) (by omega)
  have g4 : w3.cell? ⟨gOf 4, 0, none⟩ = some (.iface 275 (.pointer (some (ea 4)))) := E3.cell 4 (by omega) (by omega)
  have g5 : w3.cell? ⟨gOf 5, 0, none⟩ = some (.iface 275 (.pointer (some (ea 5)))) := E3.cell 5 (by omega) (by omega)
  have g6 : w3.cell? ⟨gOf 6, 0, none⟩ = some (.iface 275 (.pointer (some (ea 6)))) := E3.cell 6 (by omega) (by omega)
  have g7 : w3.cell? ⟨gOf 7, 0, none⟩ = some (.iface 275 (.pointer (some (ea 7)))) := E3.cell 7 (by omega) (by omega)
  have g8 : w3.cell? ⟨gOf 8, 0, none⟩ = some (.iface 275 (.pointer (some (ea 8)))) := E3.cell 8 (by omega) (by omega)
  have g9 : w3.cell? ⟨gOf 9, 0, none⟩ = some (.iface 275 (.pointer (some (ea 9)))) := E3.cell 9 (by omega) (by omega)
  have g10 : w3.cell? ⟨gOf 10, 0, none⟩ = some (.iface 275 (.pointer (some (ea 10)))) := E3.cell 10 (by omega) (by omega)
  simp only [gOf] at g1 g2 g3 g4 g5 g6 g7 g8 g9 g10
  have hten := fun i hi => ten_cells w3 ea 37 i hi
  go_wp2_with fail
  have K4 := K3.alloc (.cells #[.iface 275 (.pointer (some (ea 1))), .iface 275 (.pointer (some (ea 2))), .iface 275 (.pointer (some (ea 3))), .iface 275 (.pointer (some (ea 4))), .iface 275 (.pointer (some (ea 5))), .iface 275 (.pointer (some (ea 6))), .iface 275 (.pointer (some (ea 7))), .iface 275 (.pointer (some (ea 8))), .iface 275 (.pointer (some (ea 9))), .iface 275 (.pointer (some (ea 10)))] 37)
  generalize w3.alloc (.cells #[.iface 275 (.pointer (some (ea 1))), .iface 275 (.pointer (some (ea 2))), .iface 275 (.pointer (some (ea 3))), .iface 275 (.pointer (some (ea 4))), .iface 275 (.pointer (some (ea 5))), .iface 275 (.pointer (some (ea 6))), .iface 275 (.pointer (some (ea 7))), .iface 275 (.pointer (some (ea 8))), .iface 275 (.pointer (some (ea 9))), .iface 275 (.pointer (some (ea 10)))] 37) = w4 at *
  generalize w3.heap.size = B at *
  have E4 := E.quiet K4
  have hd4 := K4.cell' hb1 (fun h => h)
  clear hd0 hd1 g1 g2 g3 g4 g5 g6 g7 g8 g9 g10 E3 K3
  go_loop [3, 28] (fun s3 s28 => s3 = .int .i64 at_ ∧ ∃ i : Nat, i < c ∧ s28 = .int .i64 i) (fun _ s28 => 10 - (intOf s28).toNat)
  case atStart => exact ⟨rfl, 0, by omega, rfl⟩
  case round =>
    obtain ⟨rfl, i, hi, rfl⟩ := hrel
    have hc := hten i (by omega)
    by_cases hic : i + 1 = c
    · subst hic
      go_wp2_with fail
      refine (is_wrap_same b 0 _ _ hd4).mono ?_
      rintro e w' ⟨rfl, rfl⟩
      go_wp2_with fail
      go_ret2
      exact ⟨rfl, K4⟩
    · obtain ⟨ca, ta, hba⟩ := E4.block c h1 h2
      obtain ⟨cb, tb, hbb⟩ := E4.block (i + 1) (by omega) (by omega)
      go_wp2_with fail
      refine (is_wrap_other b 0 _ _ _ _ _ _ _ hd4 (E.ne c (i + 1) h1 h2 (by omega) (by omega) (fun h => hic h.symm)) hba hbb).mono ?_
      rintro e w' ⟨rfl, rfl⟩
      go_wp2_with fail
      go_round
      case rel => exact ⟨rfl, i + 1, by omega, by go_num⟩
      case measure => simp [intOf]; omega

set_option maxRecDepth 100000 in
set_option maxHeartbeats 2000000 in
theorem code_other (a : Addr) (ca : Array Value) (ta : TypeId) (w : World) (ea : Nat → Addr) (E : ErrsAll w ea) (hne : ∀ c, 1 ≤ c → c ≤ 10 → a ≠ ea c) (hba : w.heap[a.block]? = some (.cells ca ta (0, 0))) :
    Calls Tryz.prog 51 #[.iface 275 (.pointer (some a))] w fun e w' => e = .returned (.tuple #[.int .i64 (-1), .int .i64 (-1)]) ∧ Keeps (fun _ => False) w w' := by
  have K0 := (Keeps.refl (fun _ => False) w).alloc (.cells #[.pointer none] 157)
  have ht0 : (w.alloc (.cells #[.pointer none] 157)).cell? ⟨w.heap.size, 0, none⟩ = some (.pointer none) := by simp
  go_enter Tryz.func51, Tryz.ntmps51
  go_wp2_with fail
  refine (as_miss _ _ _ _ (E.quiet K0).type ht0 (by simp)).mono ?_
  rintro e w3 ⟨rfl, hw3⟩
  have K3 : Keeps (fun _ => False) w w3 := by rw [hw3]; exact ((K0.alloc _).alloc _).alloc _
  clear hw3 ht0 K0
  have E3 := E.quiet K3
  have g1 : w3.cell? ⟨gOf 1, 0, none⟩ = some (.iface 275 (.pointer (some (ea 1)))) := E3.cell 1 (by omega) (by omega)
  have g2 : w3.cell? ⟨gOf 2, 0, none⟩ = some (.iface 275 (.pointer (some (ea 2)))) := E3.cell 2 (by omega) (by omega)
  have g3 : w3.cell? ⟨gOf 3, 0, none⟩ = some (.iface 275 (.pointer (some (ea 3)))) := E3.cell 3 (by omega) (by omega)
  have g4 : w3.cell? ⟨gOf 4, 0, none⟩ = some (.iface 275 (.pointer (some (ea 4)))) := E3.cell 4 (by omega) (by omega)
  have g5 : w3.cell? ⟨gOf 5, 0, none⟩ = some (.iface 275 (.pointer (some (ea 5)))) := E3.cell 5 (by omega) (by omega)
  have g6 : w3.cell? ⟨gOf 6, 0, none⟩ = some (.iface 275 (.pointer (some (ea 6)))) := E3.cell 6 (by omega) (by omega)
  have g7 : w3.cell? ⟨gOf 7, 0, none⟩ = some (.iface 275 (.pointer (some (ea 7)))) := E3.cell 7 (by omega) (by omega)
  have g8 : w3.cell? ⟨gOf 8, 0, none⟩ = some (.iface 275 (.pointer (some (ea 8)))) := E3.cell 8 (by omega) (by omega)
  have g9 : w3.cell? ⟨gOf 9, 0, none⟩ = some (.iface 275 (.pointer (some (ea 9)))) := E3.cell 9 (by omega) (by omega)
  have g10 : w3.cell? ⟨gOf 10, 0, none⟩ = some (.iface 275 (.pointer (some (ea 10)))) := E3.cell 10 (by omega) (by omega)
  simp only [gOf] at g1 g2 g3 g4 g5 g6 g7 g8 g9 g10
  have hten := fun i hi => ten_cells w3 ea 37 i hi
  go_wp2_with fail
  have K4 := K3.alloc (.cells #[.iface 275 (.pointer (some (ea 1))), .iface 275 (.pointer (some (ea 2))), .iface 275 (.pointer (some (ea 3))), .iface 275 (.pointer (some (ea 4))), .iface 275 (.pointer (some (ea 5))), .iface 275 (.pointer (some (ea 6))), .iface 275 (.pointer (some (ea 7))), .iface 275 (.pointer (some (ea 8))), .iface 275 (.pointer (some (ea 9))), .iface 275 (.pointer (some (ea 10)))] 37)
  generalize w3.alloc (.cells #[.iface 275 (.pointer (some (ea 1))), .iface 275 (.pointer (some (ea 2))), .iface 275 (.pointer (some (ea 3))), .iface 275 (.pointer (some (ea 4))), .iface 275 (.pointer (some (ea 5))), .iface 275 (.pointer (some (ea 6))), .iface 275 (.pointer (some (ea 7))), .iface 275 (.pointer (some (ea 8))), .iface 275 (.pointer (some (ea 9))), .iface 275 (.pointer (some (ea 10)))] 37) = w4 at *
  generalize w3.heap.size = B at *
  have E4 := E.quiet K4
  have hb4 := (K4.block _ (Array.getElem?_eq_some_iff.1 hba).1 (fun h => h)).trans hba
  clear g1 g2 g3 g4 g5 g6 g7 g8 g9 g10 E3 K3
  go_loop [3, 28] (fun s3 s28 => s3 = .int .i64 (-1) ∧ ∃ i : Nat, i ≤ 10 ∧ s28 = .int .i64 i) (fun _ s28 => 10 - (intOf s28).toNat)
  case atStart => exact ⟨rfl, 0, by omega, rfl⟩
  case round =>
    obtain ⟨rfl, i, hi, rfl⟩ := hrel
    by_cases hic : i < 10
    · have hc := hten i hic
      obtain ⟨cb, tb, hbb⟩ := E4.block (i + 1) (by omega) (by omega)
      go_wp2_with fail
      refine (is_other _ _ _ _ _ _ _ (hne (i + 1) (by omega) (by omega)) hb4 hbb).mono ?_
      rintro e w' ⟨rfl, rfl⟩
      go_wp2_with fail
      go_round
      case rel => exact ⟨rfl, i + 1, by omega, by go_num⟩
      case measure => simp [intOf]; omega
    · obtain rfl : i = 10 := by omega
      go_wp2_with fail
      go_ret2
      exact ⟨rfl, K4⟩
end Go.Proofs.YtknhfobcejpmeaaGreatDoor

/- CodeFault -/
/- The walks of the reference's Bare, Fine, CodeFault. -/
namespace Go.Proofs.YtknhfobcejpmeaaGreatDoor
open Go.RowKit Go.Deep
set_option linter.unusedVariables false
set_option linter.unusedSimpArgs false

theorem size_fault : (Tryz.prog.info? 44).map (·.size) = some 2 := by kernel_rfl
/-- a fault's value -/
def faultV (f : Nat × Int) : Value := .agg #[.int .i64 f.1, .int .i64 f.2]
/-- a fault in a block of its own -/
structure FaultBox (w : World) (x : Nat) (c : Nat) (a : Int) : Prop where
  blk : w.heap[x]? = some (.cells #[.int .i64 c, .int .i64 a] 44 (0, 0))
theorem FaultBox.lt {w : World} {x c : Nat} {a : Int} (h : FaultBox w x c a) : x < w.heap.size := (Array.getElem?_eq_some_iff.1 h.blk).1
theorem FaultBox.keep {S : Nat → Prop} {w w' : World} {x c : Nat} {a : Int} (h : FaultBox w x c a) (k : Keeps S w w') (hs : ¬ S x) : FaultBox w' x c a := ⟨(k.block x h.lt hs).trans h.blk⟩
theorem FaultBox.cells {w : World} {x c : Nat} {a : Int} (h : FaultBox w x c a) :
    w.cell? ⟨x, 0, none⟩ = some (.int .i64 c) ∧ w.cell? ⟨x, 1, none⟩ = some (.int .i64 a) ∧ w.frozen? ⟨x, 0, none⟩ = false ∧ w.frozen? ⟨x, 1, none⟩ = false := by
  refine ⟨?_, ?_, frozen_of_block h.blk 0, frozen_of_block h.blk 1⟩ <;> (unfold World.cell?; rw [h.blk]; rfl)
theorem FaultBox.new (w : World) (c : Nat) (a : Int) : FaultBox (w.alloc (.cells #[.int .i64 c, .int .i64 a] 44)) w.heap.size c a := ⟨blk_alloc_new _ _⟩
theorem FaultBox.put {w : World} {x c c' : Nat} {a a' : Int} (h : FaultBox w x c a) :
    FaultBox ((w.setCell ⟨x, 0, none⟩ (.int .i64 c')).setCell ⟨x, 1, none⟩ (.int .i64 a')) x c' a' ∧ Keeps (· = x) w ((w.setCell ⟨x, 0, none⟩ (.int .i64 c')).setCell ⟨x, 1, none⟩ (.int .i64 a')) := by
  refine ⟨⟨?_⟩, Keeps.trans (Keeps.one _ _ _ _) (Keeps.one _ _ _ _) (fun _ _ h => h)⟩
  have h1 := set_block (set_block h.blk 0 (.int .i64 c')) 1 (.int .i64 a')
  simpa using h1
set_option maxRecDepth 100000 in
theorem faultBare_any (c : Nat) (w : World) :
    Calls Tryz.prog 23 #[.int .i64 c] w fun e w' => e = .returned (faultV (c, -1)) ∧ Keeps (fun _ => False) w w' := by
  have HB := Lib.hid (FaultBox.new w c (-1))
  have HK := Lib.hid ((Keeps.refl (fun _ => False) w).alloc (.cells #[.int .i64 c, .int .i64 (-1)] 44))
  go_enter Tryz.func23, Tryz.ntmps23
  go_wp2_with fail
  exact bodyPost_ret (results_cell_row rfl _ _ w.heap.size 44 #[.int .i64 c, .int .i64 (-1)] (0, 0) _ rfl HB.out.blk Tryz.underlying44 rfl size_fault) rfl ⟨rfl, HK.out⟩
set_option maxRecDepth 100000 in
theorem faultFine_any (w : World) :
    Calls Tryz.prog 50 #[] w fun e w' => e = .returned (faultV (0, -1)) ∧ Keeps (fun _ => False) w w' := by
  have HB := Lib.hid (FaultBox.new w 0 (-1))
  have HK := Lib.hid ((Keeps.refl (fun _ => False) w).alloc (.cells #[.int .i64 0, .int .i64 (-1)] 44))
  go_enter Tryz.func50, Tryz.ntmps50
  go_wp2_with fail
  exact bodyPost_ret (results_cell_row rfl _ _ w.heap.size 44 #[.int .i64 0, .int .i64 (-1)] (0, 0) _ rfl HB.out.blk Tryz.underlying44 rfl size_fault) rfl ⟨rfl, HK.out⟩
theorem errAt_le (many : Int) (l : List Ir.Op) (i : Nat) : Ir.errAt many l i ≤ 10 := by
  have h1 : ∀ o, Ir.opErr o many ≤ 10 := fun o => by unfold Ir.opErr; split <;> (try split) <;> (try split) <;> omega
  unfold Ir.errAt
  split <;> (try split) <;> first | exact h1 _ | omega
set_option maxHeartbeats 8000000 in
set_option maxRecDepth 100000 in
theorem codeFault_any (many : Int) (A : Option Addr) (n cap : Nat) (l : List Ir.Op) (w : World) (V : OpsAt w A n cap l) (hc : cap ≤ 9223372036854775807) :
    Calls Tryz.prog 11 #[.int .i64 many, .slice A n cap] w fun e w' => e = .returned (faultV (Ir.fault many l)) ∧ Keeps (fun _ => False) w w' := by
  have HV := Lib.hid V
  have HL := Lib.hid V.len
  have hnc := V.le
  have HB0 := Lib.hid (FaultBox.new w 0 0)
  have HK0 := Lib.hid ((Keeps.refl (fun _ => False) w).alloc (.cells #[.int .i64 0, .int .i64 0] 44))
  have HF := Lib.hid (show Ir.fault many l = ((if many < 1 ∨ 24 < many then (2, -1) else if 200 < n then (8, -1) else if 8 < Ir.stores l then (8, -1) else if n = 0 then (3, -1)
      else if Ir.isOut (Ir.kn (l.getD (n - 1) Ir.nop).k) = false then (3, -1)
      else match Ir.firstBad many l with | some i => (Ir.errAt many l i, (i : Int)) | none => (0, -1)) : Nat × Int) by rw [← HL.out]; rfl)
  have HSO := Lib.hid (fun w V => storesOf_any A n cap l w V hc)
  obtain ⟨f, hf⟩ : ∃ f, Ir.fault many l = f := ⟨_, rfl⟩
  rw [hf] at HF ⊢
  clear hf V
  generalize Ir.stores l = st at *
  go_enter Tryz.func11, Tryz.ntmps11
  go_upto_region 1 with fail
  obtain ⟨rb, hrb⟩ : ∃ b, w.heap.size = b := ⟨_, rfl⟩
  have HRB := Lib.hid hrb
  rw [hrb] at HB0 ⊢
  clear hrb
  generalize w.alloc _ = w1 at *
  by_cases h1 : many < 1 ∨ 24 < many
  · have HR := Lib.hid (show f = (2, -1) by rw [HF.out, if_pos h1])
    rcases h1 with h1 | h1
    · have t1 : decide (many < 1) = true := decide_eq_true h1
      go_wp2_with fail
      refine (faultBare_any 2 _).mono ?_
      rintro e w9 ⟨rfl, hk9⟩
      have HB9 := Lib.hid (HB0.out.keep hk9 (fun h => h))
      have HK9 := Lib.hid (HK0.out.trans hk9 (fun _ _ h => h))
      clear hk9
      obtain ⟨r0, r1, g0, g1⟩ := HB9.out.cells
      have hp := HB9.out.put (c' := 2) (a' := -1)
      have HP := Lib.hid hp
      clear hp
      unfold faultV
      go_wp2_with fail
      refine bodyPost_ret (results_cell_row rfl _ _ rb 44 #[.int .i64 2, .int .i64 (-1)] (0, 0) _ rfl HP.out.1.blk Tryz.underlying44 rfl size_fault) rfl ⟨by rw [HR.out]; rfl, HK9.out.trans HP.out.2 (fun b hb e => by have e : b = rb := e; have := HRB.out; omega)⟩
    · have t1 : decide (many < 1) = false := decide_eq_false (by omega)
      have t2 : decide (24 < many) = true := decide_eq_true h1
      go_wp2_with fail
      refine (faultBare_any 2 _).mono ?_
      rintro e w9 ⟨rfl, hk9⟩
      have HB9 := Lib.hid (HB0.out.keep hk9 (fun h => h))
      have HK9 := Lib.hid (HK0.out.trans hk9 (fun _ _ h => h))
      clear hk9
      obtain ⟨r0, r1, g0, g1⟩ := HB9.out.cells
      have hp := HB9.out.put (c' := 2) (a' := -1)
      have HP := Lib.hid hp
      clear hp
      unfold faultV
      go_wp2_with fail
      refine bodyPost_ret (results_cell_row rfl _ _ rb 44 #[.int .i64 2, .int .i64 (-1)] (0, 0) _ rfl HP.out.1.blk Tryz.underlying44 rfl size_fault) rfl ⟨by rw [HR.out]; rfl, HK9.out.trans HP.out.2 (fun b hb e => by have e : b = rb := e; have := HRB.out; omega)⟩
  have t1 : decide (many < 1) = false := decide_eq_false (by omega)
  have t2 : decide (24 < many) = false := decide_eq_false (by omega)
  by_cases h2 : 200 < n
  · have HR := Lib.hid (show f = (8, -1) by rw [HF.out, if_neg h1, if_pos h2])
    have t3 : decide (200 < n) = true := decide_eq_true h2
    clear h1
    go_wp2_with fail
    refine (faultBare_any 8 _).mono ?_
    rintro e w9 ⟨rfl, hk9⟩
    have HB9 := Lib.hid (HB0.out.keep hk9 (fun h => h))
    have HK9 := Lib.hid (HK0.out.trans hk9 (fun _ _ h => h))
    clear hk9
    obtain ⟨r0, r1, g0, g1⟩ := HB9.out.cells
    have hp := HB9.out.put (c' := 8) (a' := -1)
    have HP := Lib.hid hp
    clear hp
    unfold faultV
    go_wp2_with fail
    refine bodyPost_ret (results_cell_row rfl _ _ rb 44 #[.int .i64 8, .int .i64 (-1)] (0, 0) _ rfl HP.out.1.blk Tryz.underlying44 rfl size_fault) rfl ⟨by rw [HR.out]; rfl, HK9.out.trans HP.out.2 (fun b hb e => by have e : b = rb := e; have := HRB.out; omega)⟩
  have t3 : decide (200 < n) = false := decide_eq_false h2
  go_wp2_with fail
  refine (HSO.out w1 (HV.out.quiet HK0.out)).mono ?_
  rintro e w2 ⟨rfl, hk2⟩
  have HK2 := Lib.hid (HK0.out.trans hk2 (fun _ _ h => h))
  have HB2 := Lib.hid (HB0.out.keep hk2 (fun h => h))
  clear hk2
  by_cases h3 : 8 < st
  · have HR := Lib.hid (show f = (8, -1) by rw [HF.out, if_neg h1, if_neg h2, if_pos h3])
    have t4 : decide (8 < st) = true := decide_eq_true h3
    clear h1
    go_wp2_with fail
    refine (faultBare_any 8 _).mono ?_
    rintro e w9 ⟨rfl, hk9⟩
    have HB9 := Lib.hid (HB2.out.keep hk9 (fun h => h))
    have HK9 := Lib.hid (HK2.out.trans hk9 (fun _ _ h => h))
    clear hk9
    obtain ⟨r0, r1, g0, g1⟩ := HB9.out.cells
    have hp := HB9.out.put (c' := 8) (a' := -1)
    have HP := Lib.hid hp
    clear hp
    unfold faultV
    go_wp2_with fail
    refine bodyPost_ret (results_cell_row rfl _ _ rb 44 #[.int .i64 8, .int .i64 (-1)] (0, 0) _ rfl HP.out.1.blk Tryz.underlying44 rfl size_fault) rfl ⟨by rw [HR.out]; rfl, HK9.out.trans HP.out.2 (fun b hb e => by have e : b = rb := e; have := HRB.out; omega)⟩
  have t4 : decide (8 < st) = false := decide_eq_false h3
  by_cases h4 : n = 0
  · have HR := Lib.hid (show f = (3, -1) by rw [HF.out, if_neg h1, if_neg h2, if_neg h3, if_pos h4])
    clear h1
    subst h4
    go_wp2_with fail
    refine (faultBare_any 3 _).mono ?_
    rintro e w9 ⟨rfl, hk9⟩
    have HB9 := Lib.hid (HB2.out.keep hk9 (fun h => h))
    have HK9 := Lib.hid (HK2.out.trans hk9 (fun _ _ h => h))
    clear hk9
    obtain ⟨r0, r1, g0, g1⟩ := HB9.out.cells
    have hp := HB9.out.put (c' := 3) (a' := -1)
    have HP := Lib.hid hp
    clear hp
    unfold faultV
    go_wp2_with fail
    refine bodyPost_ret (results_cell_row rfl _ _ rb 44 #[.int .i64 3, .int .i64 (-1)] (0, 0) _ rfl HP.out.1.blk Tryz.underlying44 rfl size_fault) rfl ⟨by rw [HR.out]; rfl, HK9.out.trans HP.out.2 (fun b hb e => by have e : b = rb := e; have := HRB.out; omega)⟩
  have t5 : ((n : Int) == 0) = false := by simpa using h4
  obtain ⟨b, o, rfl, e0, e1, e2, e3, e4, e5⟩ := (HV.out.quiet HK2.out).get (show n - 1 < n by omega)
  have HLX := Lib.hid (show ∃ m, m + 1 = n from ⟨n - 1, by omega⟩)
  obtain ⟨m, hm⟩ := HLX.out
  clear HLX
  have hw1 : IntKind.i64.wrap ((n : Int) - 1) = (m : Int) := by rw [IntKind.wrap_i64]; omega
  have hm1 : (0 : Int) ≤ (m : Int) := by omega
  have hm2 : (m : Int) < (n : Int) := by omega
  have hmm : n - 1 = m := by omega
  rw [hmm] at e0 e1 e2 e3 e4 e5 HF
  have HM := Lib.hid hm
  clear hm hmm
  have HIO := Lib.hid (fun w => isOut_any (l.getD m Ir.nop) w)
  obtain ⟨lo, hlo⟩ : ∃ lo, Ir.isOut (Ir.kn (l.getD m Ir.nop).k) = lo := ⟨_, rfl⟩
  rw [hlo] at HIO HF
  clear hlo
  generalize l.getD m Ir.nop = op0 at *
  go_wp2_with fail
  refine (HIO.out _).mono ?_
  rintro e w3 ⟨rfl, hk3⟩
  have HK3 := Lib.hid (HK2.out.trans hk3 (fun _ _ h => h))
  have HB3 := Lib.hid (HB2.out.keep hk3 (fun h => h))
  clear hk3 e0 e1 e2 e3 e4 e5
  cases lo
  · have HR := Lib.hid (show f = (3, -1) by rw [HF.out, if_neg h1, if_neg h2, if_neg h3, if_neg h4, if_pos rfl])
    clear h1
    go_wp2_with fail
    refine (faultBare_any 3 _).mono ?_
    rintro e w9 ⟨rfl, hk9⟩
    have HB9 := Lib.hid (HB3.out.keep hk9 (fun h => h))
    have HK9 := Lib.hid (HK3.out.trans hk9 (fun _ _ h => h))
    clear hk9
    obtain ⟨r0, r1, g0, g1⟩ := HB9.out.cells
    have hp := HB9.out.put (c' := 3) (a' := -1)
    have HP := Lib.hid hp
    clear hp
    unfold faultV
    go_wp2_with fail
    refine bodyPost_ret (results_cell_row rfl _ _ rb 44 #[.int .i64 3, .int .i64 (-1)] (0, 0) _ rfl HP.out.1.blk Tryz.underlying44 rfl size_fault) rfl ⟨by rw [HR.out]; rfl, HK9.out.trans HP.out.2 (fun b hb e => by have e : b = rb := e; have := HRB.out; omega)⟩
  · have HF2 := Lib.hid (show f = match Ir.firstBad many l with | some i => (Ir.errAt many l i, (i : Int)) | none => (0, -1) by rw [HF.out, if_neg h1, if_neg h2, if_neg h3, if_neg h4, if_neg (by decide)])
    clear h1
    go_wp2_with fail
    go_loopw [6] (fun s6 wr => ∃ i : Nat, i ≤ n ∧ s6 = .int .i64 i ∧ (∀ j, j < i → Ir.errAt many l j = 0) ∧ Keeps (fun _ => False) w3 wr) (fun s6 _ => n - (intOf s6).toNat)
    case atStart => exact ⟨0, by omega, rfl, fun j hj => absurd hj (Nat.not_lt_zero _), Keeps.refl _ _⟩
    case round =>
      obtain ⟨i, hi, rfl, hz, hKi⟩ := hrel
      have HZ := Lib.hid hz
      have HKI := Lib.hid hKi
      clear hz hKi
      by_cases hlt : i < n
      · have HVI := Lib.hid (fun (w' : World) (k : Keeps (fun _ => False) wr w') j (hj : j < n) => (HV.out.quiet ((HK3.out.trans HKI.out (fun _ _ h => h)).trans k (fun _ _ h => h))).get hj)
        have HBAD := Lib.hid (fun (c : Nat) (h : Ir.errAt many l i = c) (h0 : c ≠ 0) => (show f = (c, (i : Int)) by
          rw [HF2.out, Ir.firstBad_at (by rw [HL.out]; exact hlt) (by rw [h]; exact h0) HZ.out]
          show (Ir.errAt many l i, (i : Int)) = _
          rw [h]))
        have HER := Lib.hid (show Ir.errAt many l i = if Ir.opErr (l.getD i Ir.nop) many ≠ 0 then Ir.opErr (l.getD i Ir.nop) many else if (0 < i ∧ (l.getD i Ir.nop).at_ < (l.getD (i - 1) Ir.nop).at_) ∨ (Ir.isOut (Ir.kn (l.getD i Ir.nop).k) = true ∧ i + 1 < n) then 3 else 0 by rw [← HL.out]; rfl)
        obtain ⟨b2, o2, hbb, e0, e1, e2, e3, e4, e5⟩ := HVI.out _ (Keeps.refl _ _) i hlt
        obtain ⟨rfl, rfl⟩ : b = b2 ∧ o = o2 := by injection hbb with h; injection h with h1 h2; exact ⟨h1, h2⟩
        clear hbb
        have HVG := Lib.hid (fun (w' : World) (k : Keeps (fun _ => False) wr w') j (hj : j < n) => (show OpLies w' b (o + j * 6) (l.getD j Ir.nop) by
          obtain ⟨b2, o2, hbb, hx⟩ := HVI.out w' k j hj
          obtain ⟨rfl, rfl⟩ : b = b2 ∧ o = o2 := by injection hbb with h; injection h with h1 h2; exact ⟨h1, h2⟩
          exact hx))
        have HGI := Lib.hid (fun w' k => HVG.out w' k i hlt)
        obtain ⟨op, hop⟩ : ∃ op, l.getD i Ir.nop = op := ⟨_, rfl⟩
        rw [hop] at e0 e1 e2 e3 e4 e5 HER HGI
        clear hop
        have HOE := Lib.hid (fun w => opError_any op many w)
        have HIO := Lib.hid (fun w => isOut_any op w)
        obtain ⟨oe, hoe⟩ : ∃ oe, Ir.opErr op many = oe := ⟨_, rfl⟩
        obtain ⟨io, hio⟩ : ∃ io, Ir.isOut (Ir.kn op.k) = io := ⟨_, rfl⟩
        rw [hoe] at HOE HER
        rw [hio] at HIO HER
        clear hoe hio
        go_wp2_with fail
        refine (HOE.out _).mono ?_
        rintro e w5 ⟨rfl, hk5⟩
        obtain ⟨f0, f1, f2, f3, f4, f5⟩ := HGI.out w5 hk5
        clear e0 e1 e2 e3 e4 e5
        go_wp2_with fail
        refine (HIO.out _).mono ?_
        rintro e w6 ⟨rfl, hk6⟩
        have HK6 := Lib.hid (hk5.trans hk6 (fun _ _ h => h))
        have HKK := Lib.hid (HKI.out.trans HK6.out (fun _ _ h => h))
        have HKT := Lib.hid (HK3.out.trans HKK.out (fun _ _ h => h))
        have HB6 := Lib.hid (HB3.out.keep HKK.out (fun h => h))
        clear f0 f1 f2 f3 f4 f5 hk5 hk6
        obtain ⟨r0, r1, g0, g1⟩ := HB6.out.cells
        by_cases hoe : oe = 0
        · subst hoe
          have HER2 := Lib.hid (show Ir.errAt many l i = if (0 < i ∧ op.at_ < (l.getD (i - 1) Ir.nop).at_) ∨ (io = true ∧ i + 1 < n) then 3 else 0 by rw [HER.out, if_neg (by decide)])
          have HNQ2 := Lib.hid (fun (hq : ¬ (io = true ∧ i + 1 < n)) => (show Ir.errAt many l i = if 0 < i ∧ op.at_ < (l.getD (i - 1) Ir.nop).at_ then 3 else 0 by
            rw [HER2.out]
            by_cases h : 0 < i ∧ op.at_ < (l.getD (i - 1) Ir.nop).at_
            · rw [if_pos (.inl h), if_pos h]
            · rw [if_neg (fun h2 => h2.elim h hq), if_neg h]))
          by_cases hq : io = true ∧ i + 1 < n
          · obtain ⟨rfl, hi1⟩ := hq
            have t6 : decide ((i : Int) + 1 < (n : Int)) = true := decide_eq_true (by omega)
            have HR := Lib.hid (HBAD.out 3 (by rw [HER2.out, if_pos (.inr ⟨rfl, hi1⟩)]) (by decide))
            clear hi1
            have hp := HB6.out.put (c' := 3) (a' := i)
            have HP := Lib.hid hp
            clear hp
            go_wp2_with fail
            refine bodyPost_ret (results_cell_row rfl _ _ rb 44 #[.int .i64 (3 : Nat), .int .i64 i] (0, 0) _ rfl HP.out.1.blk Tryz.underlying44 rfl size_fault) rfl ⟨by rw [HR.out]; rfl, HKT.out.trans HP.out.2 (fun b hb e => by have e : b = rb := e; have := HRB.out; omega)⟩
          · have HER3 := Lib.hid (HNQ2.out hq)
            go_upto_region 17 with fail
            go_cut [66] (fun s66 wx => s66 = .bool false ∧ wx = w6)
            case first =>
              cases io
              · go_wp2_with fail
                go_meet
                exact ⟨rfl, rfl⟩
              · have t6 : decide ((i : Int) + 1 < (n : Int)) = false := decide_eq_false (fun h => hq ⟨rfl, by omega⟩)
                clear hq
                go_wp2_with fail
                go_meet
                exact ⟨rfl, rfl⟩
            case rest =>
              obtain ⟨rfl, rfl⟩ := hcut
              by_cases hi0 : i = 0
              · have t8 : decide (0 < i) = false := decide_eq_false (by omega)
                have HNX := Lib.hid (show Ir.errAt many l i = 0 by rw [HER3.out, if_neg (fun h => by omega)])
                clear hi0 hq
                go_wp2_with fail
                go_roundw
                case rel => exact ⟨i + 1, by omega, by go_num, fun j hj => by
                  by_cases e : j = i
                  · subst e; exact HNX.out
                  · exact HZ.out j (by omega), HKK.out⟩
                case measure => simp [intOf]; omega
              · have t8 : decide (0 < i) = true := decide_eq_true (by omega)
                obtain ⟨p, hp1⟩ : ∃ p, i = p + 1 := ⟨i - 1, by omega⟩
                have HG0 := HGI.out wc HK6.out
                have HG1 := HVG.out wc HK6.out p (by omega)
                have hpp : i - 1 = p := by omega
                rw [hpp] at HER3
                have hw2 : IntKind.i64.wrap ((i : Int) - 1) = (p : Int) := by rw [IntKind.wrap_i64]; omega
                have hp2 : (0 : Int) ≤ (p : Int) := by omega
                have hp3 : (p : Int) < (n : Int) := by omega
                have hl0 : (0 : Int) ≤ (i : Int) := by omega
                have hl1 : (i : Int) < (n : Int) := by omega
                have a5 := HG0.v5
                have b5 := HG1.v5
                generalize l.getD p Ir.nop = op1 at *
                generalize op1.at_ = y1 at *
                generalize op.at_ = y0 at *
                have HPI := Lib.hid hp1
                clear hp1 hpp HG0 HG1 hq
                have hi00 : 0 < i := by omega
                clear hi0
                by_cases hlt2 : y0 < y1
                · have t9 : decide (y0 < y1) = true := decide_eq_true hlt2
                  go_upto_region 20 with fail
                  go_quiet (fail)
                  generalize hwd : wc.drewN _ = wd
                  have hkd : Keeps (fun _ => False) wc wd := by rw [← hwd]; exact Keeps.of_drewN _ _ _
                  clear hwd
                  have HKKd := Lib.hid (HKK.out.trans hkd (fun _ _ h => h))
                  have HKTd := Lib.hid (HKT.out.trans hkd (fun _ _ h => h))
                  have HBd := Lib.hid (HB6.out.keep hkd (fun h => h))
                  clear hkd a5 b5 r0 r1 g0 g1
                  obtain ⟨r0, r1, g0, g1⟩ := HBd.out.cells
                  have HR := Lib.hid (HBAD.out 3 (by rw [HER3.out, if_pos ⟨by omega, hlt2⟩]) (by decide))
                  clear hlt2
                  have hp := HBd.out.put (c' := 3) (a' := i)
                  have HP := Lib.hid hp
                  clear hp
                  go_wp2_with fail
                  refine bodyPost_ret (results_cell_row rfl _ _ rb 44 #[.int .i64 (3 : Nat), .int .i64 i] (0, 0) _ rfl HP.out.1.blk Tryz.underlying44 rfl size_fault) rfl ⟨by rw [HR.out]; rfl, HKTd.out.trans HP.out.2 (fun b hb e => by have e : b = rb := e; have := HRB.out; omega)⟩
                · have t9 : decide (y0 < y1) = false := decide_eq_false hlt2
                  go_upto_region 20 with fail
                  go_quiet (fail)
                  generalize hwd : wc.drewN _ = wd
                  have hkd : Keeps (fun _ => False) wc wd := by rw [← hwd]; exact Keeps.of_drewN _ _ _
                  clear hwd
                  have HKKd := Lib.hid (HKK.out.trans hkd (fun _ _ h => h))
                  have HKTd := Lib.hid (HKT.out.trans hkd (fun _ _ h => h))
                  have HBd := Lib.hid (HB6.out.keep hkd (fun h => h))
                  clear hkd a5 b5 r0 r1 g0 g1
                  have HNX := Lib.hid (show Ir.errAt many l i = 0 by rw [HER3.out, if_neg (fun h => hlt2 h.2)])
                  clear hlt2
                  go_wp2_with fail
                  go_roundw
                  case rel => exact ⟨i + 1, by omega, by go_num, fun j hj => by
                    by_cases e : j = i
                    · subst e; exact HNX.out
                    · exact HZ.out j (by omega), HKKd.out⟩
                  case measure => simp [intOf]; omega
        · have t6 : ((oe : Int) == 0) = false := by simpa using hoe
          have t7 : decide (0 < oe) = true := decide_eq_true (by omega)
          have HR := Lib.hid (HBAD.out oe (by rw [HER.out, if_pos hoe]) hoe)
          clear hoe
          have hp := HB6.out.put (c' := oe) (a' := i)
          have HP := Lib.hid hp
          clear hp
          go_wp2_with fail
          refine bodyPost_ret (results_cell_row rfl _ _ rb 44 #[.int .i64 (oe : Nat), .int .i64 i] (0, 0) _ rfl HP.out.1.blk Tryz.underlying44 rfl size_fault) rfl ⟨by rw [HR.out]; rfl, HKT.out.trans HP.out.2 (fun b hb e => by have e : b = rb := e; have := HRB.out; omega)⟩
      · obtain rfl : i = n := by omega
        have HR := Lib.hid (show f = (0, -1) by rw [HF2.out, Ir.firstBad_none (fun j hj => HZ.out j (by have := HL.out; omega))])
        have HKT := Lib.hid (HK3.out.trans HKI.out (fun _ _ h => h))
        have HB6 := Lib.hid (HB3.out.keep HKI.out (fun h => h))
        go_wp2_with fail
        refine (faultFine_any _).mono ?_
        rintro e w9 ⟨rfl, hk9⟩
        have HB9 := Lib.hid (HB6.out.keep hk9 (fun h => h))
        have HK9 := Lib.hid (HKT.out.trans hk9 (fun _ _ h => h))
        clear hk9
        obtain ⟨r0, r1, g0, g1⟩ := HB9.out.cells
        have hp := HB9.out.put (c' := 0) (a' := -1)
        have HP := Lib.hid hp
        clear hp
        unfold faultV
        go_wp2_with fail
        refine bodyPost_ret (results_cell_row rfl _ _ rb 44 #[.int .i64 0, .int .i64 (-1)] (0, 0) _ rfl HP.out.1.blk Tryz.underlying44 rfl size_fault) rfl ⟨by rw [HR.out]; rfl, HK9.out.trans HP.out.2 (fun b hb e => by have e : b = rb := e; have := HRB.out; omega)⟩
end Go.Proofs.YtknhfobcejpmeaaGreatDoor

/- Place -/
/- The walks of Watch, memory. -/
namespace Go.Proofs.YtknhfobcejpmeaaGreatDoor
open Go.RowKit Go.Deep
set_option linter.unusedVariables false
set_option linter.unusedSimpArgs false

theorem zeroB (w : World) : (zeroValue 4).run Tryz.prog w = .ok (.bool false) w := by kernel_rfl
set_option maxRecDepth 100000 in
theorem watchAt_owns {w : World} {pw n : Nat} {D : DataW Unit} {f : Int → Bool} (h : w.ownsMap Tryz.prog 3 (plainElem Tryz.prog 4) pw n D) (hD : ∀ p : Int, 0 ≤ p → p < 64 → D.atKey (.int .i64 p) (.lit (.bool false)) = .lit (.bool (f p))) : WatchAt w pw f := by
  obtain ⟨es, c, hb, hf, hs, hd⟩ := h
  refine ⟨es, c, hb, fun w' hb' p h0 h1 => ?_⟩
  have hown : w'.ownsMap Tryz.prog 3 (plainElem Tryz.prog 4) pw n D := ⟨es, c, hb', hf, hs, hd⟩
  obtain ⟨v, ps, hrun, hv⟩ := hown.lookup mapK Tryz.underlying139 (zeroB w') (plainElem_bool Tryz.underlying4 false) (Maps.keyOf_int_mk Tryz.underlying3 (wf_i (show i64R p from ⟨by omega, by omega⟩)))
  rw [hD p h0 h1] at hv
  unfold plainElem at hv
  rw [Tryz.underlying4] at hv
  split at hv
  · injection hv with hv
    injection hv with hv _
    injection hv with hv
    injection hv with hv
    rw [hrun, hv]
  · rename_i e2
    cases e2
  · rename_i e2
    cases e2
  · cases hv
/-- nothing is watched -/
theorem watchAt_none {w : World} {pw c : Nat} (hb : w.heap[pw]? = some (.map #[] c)) (hc : c = 0) : WatchAt w pw (fun _ => false) := by
  subst hc
  exact ⟨#[], 0, hb, fun w' hb' p h0 h1 => look_empty w' pw 0 p hb' (wf_i (show i64R p from ⟨by omega, by omega⟩))⟩
/-- what is watched behind Watch of a page -/
def watchF (page : Int) : Int → Bool := fun q => decide (0 ≤ page ∧ page < 64 ∧ q = page)
set_option maxHeartbeats 1000000 in
set_option maxRecDepth 100000 in
theorem watch_any (r pb pw ph cp : Nat) (m : Nat → Int) (page : Int) (w : World) (ea : Nat → Addr) (E : ErrsC w ea) (R : RamAt w r pb pw ph cp m) (hm : w.heap[pw]? = some (.map #[] 0)) :
    Calls Tryz.prog 61 #[.pointer (some ⟨r, 0, none⟩), .int .i64 page, .bool true] w fun e w' => (∃ ev, e = .returned ev) ∧ WatchAt w' pw (watchF page) ∧ Keeps (· = pw) w w' := by
  have hb := E.bound
  by_cases h : 0 ≤ page ∧ page < 64
  · have t1 : decide (page < 0) = false := decide_eq_false (by omega)
    have t2 : decide (64 ≤ page) = false := decide_eq_false (by omega)
    have hbx : w.cell? ⟨r, 1, none⟩ = some (.map (some pw)) := by simp [World.cell?, R.box]
    have hown : w.ownsMap (H := Unit) Tryz.prog 3 (plainElem Tryz.prog 4) pw 0 (.map []) := ⟨#[], 0, hm, ⟨by simp, MapKept.stamped_empty 0, by simp⟩, by simp, rfl⟩
    have hkey := Maps.keyOf_int_mk Tryz.underlying3 (wf_i (show i64R page from ⟨by omega, by omega⟩))
    have HOWN := Lib.hid hown
    have HML := Lib.hid (show 0 < maxLen by decide)
    have HP := Lib.hid h
    clear hown h hm R
    go_enter Tryz.func61, Tryz.ntmps61
    go_wp2_with (at_mapUpdate; refine wpList_mapUpdate_own _ rfl _ _ _ 139 rfl 3 4 mapK Tryz.underlying139 _ pw 0 _ rfl HOWN.out HML.out _ _ _ rfl rfl hkey _ [] (plainElem_bool Tryz.underlying4 true) ?_; intro w4 hown4 hgrow4)
    have HW := Lib.hid (watchAt_owns (f := watchF page) hown4 (fun p h0 h1 => by
      by_cases e : p = page
      · subst e
        rw [Maps.atKey_put_same (by first | exact Maps.isMap_nil | trivial | (unfold Maps.IsMap; simp)) (key_lit _)]
        unfold watchF
        rw [decide_eq_true ⟨h0, h1, rfl⟩]
      · rw [Maps.atKey_put_other (lit_ne e)]
        unfold watchF
        rw [decide_eq_false (fun hh => e hh.2.2)]
        rfl))
    have HK := Lib.hid ((Keeps.refl (fun b => b = pw) w).grown hgrow4 (fun k hk _ => by injection hk with hk; exact hk.symm))
    clear hown4 hgrow4
    go_wp2_with fail
    go_ret
    exact ⟨⟨_, rfl⟩, HW.out, HK.out⟩
  · have HW := Lib.hid (show WatchAt w pw (watchF page) from by
      have e : watchF page = fun _ => false := by
        funext q
        unfold watchF
        exact decide_eq_false (fun hh => h ⟨hh.1, hh.2.1⟩)
      rw [e]
      exact watchAt_none hm rfl)
    clear R hm
    by_cases h1 : page < 0
    · have t1 : decide (page < 0) = true := decide_eq_true h1
      clear h
      go_enter Tryz.func61, Tryz.ntmps61
      go_wp2_with fail
      go_ret
      exact ⟨⟨_, rfl⟩, HW.out, Keeps.refl _ _⟩
    · have t1 : decide (page < 0) = false := decide_eq_false h1
      have t2 : decide (64 ≤ page) = true := decide_eq_true (by omega)
      clear h
      go_enter Tryz.func61, Tryz.ntmps61
      go_wp2_with fail
      go_ret
      exact ⟨⟨_, rfl⟩, HW.out, Keeps.refl _ _⟩
end Go.Proofs.YtknhfobcejpmeaaGreatDoor
