
/- The walks of (*Ram).Words, of a Store that is refused, and what an empty map answers. -/
import Derived.Test.YtlmnmncdoiealaaDoorRamStore
namespace Go.Proofs.YtlmnmncdoiealaaDoor
open Go.RowKit Go.Deep
set_option linter.unusedVariables false

set_option maxHeartbeats 1000000 in
theorem store_bad (r : Addr) (a n v : Int) (w : World) (ea : Nat → Addr) (E : Errs3 w ea) (ha : 0 ≤ a ∧ a < 4294967296) (h : rightC a n ≠ 0) :
    Calls Tryd.prog 17 #[.pointer (some r), .int .u32 a, .int .i64 n, .int .u32 v] w fun e w' => e = .returned (errV ea (rightC a n)) ∧ w = w' := by
  go_enter Tryd.func17, Tryd.ntmps17
  go_wp2_with fail
  refine (right_bad _ _ _ ea E ha h).mono ?_
  rintro e w' ⟨rfl, rfl⟩
  unfold errV
  go_wp2_with fail
  go_ret
  exact ⟨rfl, rfl⟩

theorem int_key : Maps.Keyed Tryd.prog 3 := Maps.int_keyed Tryd.underlying3
theorem zero_bool (w : World) : (zeroValue 4).run Tryd.prog w = .ok (.bool false) w := by kernel_rfl
theorem look_empty (w : World) (b c : Nat) (p : Int) (hb : w.heap[b]? = some (.map #[] c)) (hp : (Lit.int .i64 p).wf = true) :
    (Instr.lookup 84 (.map (some b)) (.int .i64 p) false).run Tryd.prog w = .ok (.bool false) w := by
  have hk := Maps.keyOf_int_mk Tryd.underlying3 hp
  have F : WideElems.Fit (H := Unit) Tryd.prog 3 (fun _ => none) #[] c := ⟨by simp, MapKept.stamped_empty c, by simp⟩
  rcases Maps.fit_look false int_key Tryd.underlying84 (zero_bool w) hb F hk with ⟨h, _⟩ | ⟨e0, y, he, _⟩
  · exact h
  · simp at he

theorem Tryd.info_u32 : (Tryd.prog.info? 29).map (fun i => (i.zero, i.size, i.bytes)) = some (some (.int .u32 0), 1, 4) := by kernel_rfl
def zeroRow32 (n : Nat) : Array Value := madeCells #[.int .u32 0] n
theorem make_words (w : World) : (Instr.makeSlice 40 (.int .i64 4096) (.int .i64 4096)).run Tryd.prog w = .ok (.slice (some ⟨w.heap.size, 0, none⟩) 4096 4096) (w.alloc (.cells (zeroRow32 4096) 29)) :=
  run_make_row' (P := Tryd.prog) 40 29 (.int .u32 0) 4 Tryd.underlying40 Tryd.info_u32 rfl .i64 .i64 4096 (by omega) (by omega) w

theorem words_step {wr : World} {b : Nat} {T : TypeId} {m : Nat → Int} {i : Nat} {x : Int} (h : wr.rowIs b T 4096 (fun k => .int .u32 (be m (4 * k) (min 4 (i - 4 * k))))) (hx : x = 256 * be m (4 * (i / 4)) (i % 4) + m i) :
    (wr.setCell ⟨b, i / 4, none⟩ (.int .u32 x)).rowIs b T 4096 (fun k => .int .u32 (be m (4 * k) (min 4 (i + 1 - 4 * k)))) := by
  refine (h.set (i / 4) _).congr fun k hk => ?_
  by_cases e : k = i / 4
  · subst e
    rw [if_pos rfl, hx, show min 4 (i + 1 - 4 * (i / 4)) = i % 4 + 1 by omega]
    show _ = Value.int .u32 (256 * be m (4 * (i / 4)) (i % 4) + m (4 * (i / 4) + i % 4))
    rw [show 4 * (i / 4) + i % 4 = i by omega]
  · rw [if_neg e, show min 4 (i - 4 * k) = min 4 (i + 1 - 4 * k) by omega]

set_option maxRecDepth 100000 in
set_option maxHeartbeats 1000000 in
theorem words_any (r pb pw ph cp : Nat) (m : Nat → Int) (w : World) (R : RamAt w r pb pw ph cp m) :
    Calls Tryd.prog 26 #[.pointer (some ⟨r, 0, none⟩)] w fun e w' => e = .returned (.slice (some ⟨w.heap.size, 0, none⟩) 4096 4096) ∧ w'.rowIs w.heap.size 29 4096 (fun k => .int .u32 (be m (4 * k) 4)) ∧ Keeps (fun _ => False) w w' := by
  have hmk := make_words
  have hb : w.cell? ⟨r, 0, none⟩ = some (.slice (some ⟨pb, 0, none⟩) 16384 cp) := by simp [World.cell?, R.box]
  obtain ⟨hcp1, hcp2⟩ := R.room
  go_enter Tryd.func26, Tryd.ntmps26
  have hb' := cell_alloc hb (.cells (zeroRow32 4096) 29)
  go_wp2_with fail
  go_loopw [18] (fun s18 wr => ∃ i : Nat, i ≤ 16384 ∧ s18 = .int .i64 i ∧ wr.rowIs w.heap.size 29 4096 (fun k => .int .u32 (be m (4 * k) (min 4 (i - 4 * k)))) ∧ Keeps (fun _ => False) w wr) (fun s18 _ => 16384 - (intOf s18).toNat)
  case atStart => exact ⟨0, Nat.zero_le _, rfl, (World.rowIs_made w (.int .u32 0) 4096 29).congr (fun k _ => by simp [be]), (Keeps.refl _ w).alloc _⟩
  case round =>
    obtain ⟨i, hi, rfl, hrow, hS⟩ := hrel
    by_cases hlt : i < 16384
    · have hc := (hS.rowTo R.bytes (fun x => x)).cell (i := i) hlt
      obtain ⟨g1, g2⟩ := R.rng i hlt
      have hw := hrow.cell (i := i / 4) (by omega)
      have hf := hrow.frozen (i / 4)
      rw [show min 4 (i - 4 * (i / 4)) = i % 4 by omega] at hw
      have hr := be_rng m (4 * (i / 4)) (i % 4) (fun k hk => R.rng _ (by omega))
      have hp : (256 : Int) ^ (i % 4) ≤ 16777216 := by
        have hi4 : i % 4 = 0 ∨ i % 4 = 1 ∨ i % 4 = 2 ∨ i % 4 = 3 := by omega
        rcases hi4 with h | h | h | h <;> rw [h] <;> decide
      have hr1 := hr.1
      have hr2 : be m (4 * (i / 4)) (i % 4) < 16777216 := by omega
      clear hp hr
      have HO := Lib.hid (or_byte (be m (4 * (i / 4)) (i % 4)) (m i) hr1 hr2 g1 g2)
      go_wp2
      go_roundw
      case rel => exact ⟨i + 1, by omega, by go_num, words_step hrow HO.out, hS.setCell (a := ⟨w.heap.size, i / 4, none⟩) (fun h => absurd h (Nat.lt_irrefl _)) _⟩
      case measure => simp [intOf]; omega
    · obtain rfl : i = 16384 := by omega
      go_wp2
      go_ret
      exact ⟨rfl, hrow.congr (fun k hk => by rw [show min 4 (16384 - 4 * k) = 4 by omega]), hS⟩
end Go.Proofs.YtlmnmncdoiealaaDoor
