
/- The walk of opt.Reads. -/
import Derived.Test.YtgmbladcoikffaaGreatDoorLearn
namespace Go.Proofs.YtgmbladcoikffaaGreatDoor
open Go.RowKit Go.Deep
set_option linter.unusedVariables false
set_option linter.unusedSimpArgs false

def readsC (c : Nat) (d a b : Int) : List Int := (if Ir.hasA c then [a] else []) ++ (if Ir.hasB c && decide (c ≠ 5) then [b] else []) ++ (if Ir.isDiv c then [d] else [])
theorem reads_eq (o : Ir.Op) : Ir.reads o = readsC (Ir.kn o.k) o.d o.a o.b := rfl
theorem reads_le (o : Ir.Op) : (Ir.reads o).length ≤ 3 := by
  unfold Ir.reads
  split <;> split <;> split <;> simp
/-- a row of ints, as a result -/
def IntsAt (w : World) (l : List Int) (v : Value) : Prop := ∃ A n cap, v = .slice A n cap ∧ n = l.length ∧ cap ≤ 3 ∧ Reads w A n cap (fun i => .int .i64 (l.getD i 0))
theorem IntsAt.keep {w w' : World} {l : List Int} {v : Value} (h : IntsAt w l v) (k : Keeps (fun _ => False) w w') : IntsAt w' l v := by
  obtain ⟨A, n, cap, h1, h2, h3, h4⟩ := h
  exact ⟨A, n, cap, h1, h2, h3, h4.keep k (fun _ _ _ h => h)⟩
theorem ints_nil (w : World) : IntsAt w [] (.slice none 0 0) := ⟨none, 0, 0, rfl, rfl, by decide, Nat.le_refl _, .inl rfl⟩
theorem ints_one (w : World) (a : Int) (T : TypeId) : IntsAt (w.alloc (.cells #[.int .i64 a] T)) [a] (.slice (some ⟨w.heap.size, 0, none⟩) 1 1) :=
  ⟨_, 1, 1, rfl, rfl, by decide, Nat.le_refl _, .inr ⟨_, 0, rfl, by simp, fun i hi => by
    obtain rfl : i = 0 := by omega
    unfold World.cell?; rw [blk_alloc_new]; rfl⟩⟩
theorem ints_two (w : World) (a b : Int) (T : TypeId) : IntsAt (w.alloc (.cells #[.int .i64 a, .int .i64 b] T)) [a, b] (.slice (some ⟨w.heap.size, 0, none⟩) 2 2) :=
  ⟨_, 2, 2, rfl, rfl, by decide, Nat.le_refl _, .inr ⟨_, 0, rfl, by simp, fun i hi => by
    have h : i = 0 ∨ i = 1 := by omega
    rcases h with rfl | rfl <;> (unfold World.cell?; rw [blk_alloc_new]; rfl)⟩⟩
theorem ints_three (w : World) (a b d : Int) (T : TypeId) : IntsAt (w.alloc (.cells #[.int .i64 a, .int .i64 b, .int .i64 d] T)) [a, b, d] (.slice (some ⟨w.heap.size, 0, none⟩) 3 3) :=
  ⟨_, 3, 3, rfl, rfl, by decide, Nat.le_refl _, .inr ⟨_, 0, rfl, by simp, fun i hi => by
    have h : i = 0 ∨ i = 1 ∨ i = 2 := by omega
    rcases h with rfl | rfl | rfl <;> (unfold World.cell?; rw [blk_alloc_new]; rfl)⟩⟩
theorem ints_one' (w : World) (l : List Int) (a : Int) (T : TypeId) (b : Nat) (hb : b = w.heap.size) (hl : l = [a]) : IntsAt (w.alloc (.cells #[.int .i64 a] T)) l (.slice (some ⟨b, 0, none⟩) 1 1) := by
  subst hl hb
  exact ints_one w a T
theorem ints_two' (w : World) (l : List Int) (a b : Int) (T : TypeId) (g : Nat) (hb : g = w.heap.size) (hl : l = [a, b]) : IntsAt (w.alloc (.cells #[.int .i64 a, .int .i64 b] T)) l (.slice (some ⟨g, 0, none⟩) 2 2) := by
  subst hl hb
  exact ints_two w a b T
theorem ints_three' (w : World) (l : List Int) (a b d : Int) (T : TypeId) (g : Nat) (hb : g = w.heap.size) (hl : l = [a, b, d]) : IntsAt (w.alloc (.cells #[.int .i64 a, .int .i64 b, .int .i64 d] T)) l (.slice (some ⟨g, 0, none⟩) 3 3) := by
  subst hl hb
  exact ints_three w a b d T
set_option maxHeartbeats 8000000 in
set_option maxRecDepth 100000 in
theorem Reads_any (o : Ir.Op) (w : World) :
    Calls Tryz.prog 103 #[.agg (opC o)] w fun e w' => ∃ v, e = .returned v ∧ IntsAt w' (Ir.reads o) v ∧ Keeps (fun _ => False) w w' := by
  rw [reads_eq]
  obtain ⟨k, d, a, b, im, t⟩ := o
  simp only
  have HN := Lib.hid ((Keeps.refl (fun _ => False) w).alloc (.cells (opC ⟨k, d, a, b, im, t⟩) 85))
  simp only [opC] at HN
  have HS := Lib.hid (fun w => sum_any k w)
  have HD := Lib.hid (fun w => div_any k w)
  have hle := Ir.kn_le k
  have HK := fun c h => Ir.kinds k c h
  generalize Ir.kn k = c at *
  replace HK := HK c rfl
  obtain ⟨l, hl⟩ : ∃ l, readsC c d a b = l := ⟨_, rfl⟩
  rw [hl]
  have HL := Lib.hid hl
  clear hl
  have h : c = 0 ∨ c = 1 ∨ c = 2 ∨ c = 3 ∨ c = 4 ∨ c = 5 ∨ c = 6 ∨ c = 7 ∨ c = 8 ∨ c = 9 ∨ c = 10 ∨ c = 11 ∨ c = 12 ∨ c = 13 ∨ c = 14 ∨ c = 15 ∨ c = 16 ∨ c = 17 ∨ c = 18 ∨ c = 19 ∨ c = 20 ∨ c = 21 ∨ c = 22 ∨ c = 23 ∨ c = 24 ∨ c = 25 ∨ c = 26 ∨ c = 27 := by omega
  unfold opC
  rcases h with rfl | rfl | rfl | rfl | rfl | rfl | rfl | rfl | rfl | rfl | rfl | rfl | rfl | rfl | rfl | rfl | rfl | rfl | rfl | rfl | rfl | rfl | rfl | rfl | rfl | rfl | rfl | rfl
  all_goals
    simp only [Nat.reduceBEq] at HK
    obtain ⟨k1, k2, k3, k4, k5, k6, k7, k8, k9, k10, k11, k12, k13, k14, k15, k16, k17, k18, k19, k20, k21, k22, k23, k24, k25, k26, k27⟩ := HK
    clear hle
    go_enter Tryz.func103, Tryz.ntmps103
    go_wp2_with (first
      | (go_at_call 133; refine (HD.out _).mono ?_; rintro e w' ⟨rfl, rfl⟩)
      | (go_at_call 124; refine (HS.out _).mono ?_; rintro e w' ⟨rfl, rfl⟩))
    go_ret
    first
      | exact ⟨_, rfl, by rw [← HL.out]; exact ints_nil _, HN.out⟩
      | exact ⟨_, rfl, ints_one' _ _ _ _ _ (by simp) (by rw [← HL.out]; rfl), HN.out.alloc _⟩
      | exact ⟨_, rfl, ints_two' _ _ _ _ _ _ (by simp) (by rw [← HL.out]; rfl), HN.out.alloc _⟩
      | exact ⟨_, rfl, ints_three' _ _ _ _ _ _ _ (by simp) (by rw [← HL.out]; rfl), HN.out.alloc _⟩
end Go.Proofs.YtgmbladcoikffaaGreatDoor
