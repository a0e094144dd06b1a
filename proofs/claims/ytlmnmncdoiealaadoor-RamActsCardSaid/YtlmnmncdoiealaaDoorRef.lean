
/- The reference's memory as it lies; the walks of its ReachError, NewRam, at, put. -/
import Derived.Test.YtlmnmncdoiealaaDoorShiftOf
import Derived.Test.YtlmnmncdoiealaaDoorRamWords
import Derived.BigRegion
namespace Go.Proofs.YtlmnmncdoiealaaDoor
open Go.RowKit Go.Deep
set_option linter.unusedVariables false

theorem Tryd.info_bool : (Tryd.prog.info? 4).map (fun i => (i.zero, i.size, i.bytes)) = some (some (.bool false), 1, 1) := by kernel_rfl
/-- rows that are made -/
def falseRow (n : Nat) : Array Value := madeCells #[.bool false] n
theorem make_bools (w : World) : (Instr.makeSlice 59 (.int .i64 64) (.int .i64 64)).run Tryd.prog w = .ok (.slice (some ⟨w.heap.size, 0, none⟩) 64 64) (w.alloc (.cells (falseRow 64) 4)) :=
  run_make_row' (P := Tryd.prog) 59 4 (.bool false) 1 Tryd.underlying59 Tryd.info_bool rfl .i64 .i64 64 (by omega) (by omega) w
theorem be4 (m : Nat → Int) (a : Nat) : be m a 4 = 16777216 * m a + 65536 * m (a + 1) + 256 * m (a + 2) + m (a + 3) := by
  simp only [be, Nat.add_zero]
  omega

/-- the reference's memory: its words are m's bytes -/
structure RefW (w : World) (q wb tb hb : Nat) (wd : Nat → Int) (wt ht : Nat → Bool) : Prop where
  box : w.heap[q]? = some (.cells #[.slice (some ⟨wb, 0, none⟩) 4096 4096, .slice (some ⟨tb, 0, none⟩) 64 64, .slice (some ⟨hb, 0, none⟩) 64 64] 61 (0, 0))
  words : RowTo w wb 29 4096 (fun i => .int .u32 (wd i))
  watch : RowTo w tb 4 64 (fun i => .bool (wt i))
  hit : RowTo w hb 4 64 (fun i => .bool (ht i))
  apart : q ≠ wb ∧ q ≠ tb ∧ q ≠ hb ∧ wb ≠ tb ∧ wb ≠ hb ∧ tb ≠ hb
structure RefAt (w : World) (q wb tb hb : Nat) (m : Nat → Int) (wt ht : Nat → Bool) : Prop where
  raw : RefW w q wb tb hb (fun i => be m (4 * i) 4) wt ht
  rng : ∀ i, i < 16384 → 0 ≤ m i ∧ m i < 256
theorem RefW.keep {w w' : World} {q wb tb hb : Nat} {wd : Nat → Int} {wt ht : Nat → Bool} {S : Nat → Prop} (h : RefW w q wb tb hb wd wt ht) (k : Keeps S w w') (h1 : ¬ S q ∧ ¬ S wb ∧ ¬ S tb ∧ ¬ S hb) : RefW w' q wb tb hb wd wt ht :=
  ⟨(k.block q (Array.getElem?_eq_some_iff.1 h.box).1 h1.1).trans h.box, k.rowTo h.words h1.2.1, k.rowTo h.watch h1.2.2.1, k.rowTo h.hit h1.2.2.2, h.apart⟩
theorem RefAt.keep {w w' : World} {q wb tb hb : Nat} {m : Nat → Int} {wt ht : Nat → Bool} {S : Nat → Prop} (h : RefAt w q wb tb hb m wt ht) (k : Keeps S w w') (h1 : ¬ S q ∧ ¬ S wb ∧ ¬ S tb ∧ ¬ S hb) : RefAt w' q wb tb hb m wt ht :=
  ⟨h.raw.keep k h1, h.rng⟩
theorem RefW.congr {w : World} {q wb tb hb : Nat} {wd wd' : Nat → Int} {wt ht : Nat → Bool} (h : RefW w q wb tb hb wd wt ht) (e : ∀ i, i < 4096 → wd i = wd' i) : RefW w q wb tb hb wd' wt ht :=
  ⟨h.box, h.words.congr (fun i hi => by rw [e i hi]), h.watch, h.hit, h.apart⟩
theorem RefAt.congr {w : World} {q wb tb hb : Nat} {m m' : Nat → Int} {wt ht : Nat → Bool} (h : RefAt w q wb tb hb m wt ht) (e : ∀ i, i < 16384 → m i = m' i) : RefAt w q wb tb hb m' wt ht :=
  ⟨h.raw.congr (fun i hi => by rw [be4, be4, e _ (by omega), e _ (by omega), e _ (by omega), e _ (by omega)]), fun i hi => by rw [← e i hi]; exact h.rng i hi⟩

set_option maxHeartbeats 400000 in
theorem reach_any (a n : Int) (w : World) (ha : 0 ≤ a ∧ a < 4294967296) (hn : (Lit.int .i64 n).wf = true) :
    Calls Tryd.prog 40 #[.int .u32 a, .int .i64 n] w fun e w' => e = .returned (.int .i64 (rightC a n)) ∧ w = w' := by
  by_cases hs : n ≠ 1 ∧ n ≠ 2 ∧ n ≠ 4
  · have hr : rightC a n = 3 := by rw [rightC, if_pos hs]
    rw [hr]
    have n1 : (n != 1) = true := by simpa using hs.1
    have n2 : (n != 2) = true := by simpa using hs.2.1
    have n4 : (n != 4) = true := by simpa using hs.2.2
    clear hs hr
    go_enter Tryd.func40, Tryd.ntmps40
    go_wp2
    go_ret
    exact ⟨rfl, rfl⟩
  · have hn' : n = 1 ∨ n = 2 ∨ n = 4 := by omega
    have hr : rightC a n = if a % n ≠ 0 then 9 else if 16384 ≤ a then 10 else 0 := by rw [rightC, if_neg hs]
    have HR := Lib.hid hr
    clear hs hr
    by_cases hf : 16384 ≤ a
    all_goals
      rcases hn' with rfl | rfl | rfl
      all_goals
        go_enter Tryd.func40, Tryd.ntmps40
        go_wp2
        all_goals
          go_ret
          refine ⟨ret_i ?_, rfl⟩
          rw [HR.out]
          simp only [bne_iff_ne, ne_eq, bne_eq_false_iff_eq] at *
          split <;> (try split) <;> first | rfl | (exfalso; omega)

/-- the byte at a place, out of its word -/
theorem byte_of (m : Nat → Int) (a : Nat) (h : ∀ i, i < 4 → 0 ≤ m (4 * (a / 4) + i) ∧ m (4 * (a / 4) + i) < 256) : be m (4 * (a / 4)) 4 / 2 ^ (24 - 8 * ((a : Int) % 4)).toNat % 2 ^ (8 : Int).toNat = m a := by
  have h0 := h 0 (by omega)
  have h1 := h 1 (by omega)
  have h2 := h 2 (by omega)
  have h3 := h 3 (by omega)
  rw [be4]
  rw [Nat.add_zero] at h0
  have hr : a % 4 = 0 ∨ a % 4 = 1 ∨ a % 4 = 2 ∨ a % 4 = 3 := by omega
  rcases hr with hr | hr | hr | hr
  · have e : a = 4 * (a / 4) := by omega
    have e1 : (24 - 8 * ((a : Int) % 4)).toNat = 24 := by omega
    have e2 : m a = m (4 * (a / 4)) := congrArg m e
    rw [e1, e2]
    show _ / (16777216 : Int) % 256 = _
    omega
  · have e : a = 4 * (a / 4) + 1 := by omega
    have e1 : (24 - 8 * ((a : Int) % 4)).toNat = 16 := by omega
    have e2 : m a = m (4 * (a / 4) + 1) := congrArg m e
    rw [e1, e2]
    show _ / (65536 : Int) % 256 = _
    omega
  · have e : a = 4 * (a / 4) + 2 := by omega
    have e1 : (24 - 8 * ((a : Int) % 4)).toNat = 8 := by omega
    have e2 : m a = m (4 * (a / 4) + 2) := congrArg m e
    rw [e1, e2]
    show _ / (256 : Int) % 256 = _
    omega
  · have e : a = 4 * (a / 4) + 3 := by omega
    have e1 : (24 - 8 * ((a : Int) % 4)).toNat = 0 := by omega
    have e2 : m a = m (4 * (a / 4) + 3) := congrArg m e
    rw [e1, e2]
    show _ / (1 : Int) % 256 = _
    omega

set_option maxRecDepth 100000 in
set_option maxHeartbeats 1000000 in
theorem refAt_any (q wb tb hb : Nat) (m : Nat → Int) (wt ht : Nat → Bool) (a : Nat) (w : World) (R : RefAt w q wb tb hb m wt ht) (ha : a < 16384) :
    Calls Tryd.prog 41 #[.pointer (some ⟨q, 0, none⟩), .int .i64 a] w fun e w' => e = .returned (.int .u8 (m a)) ∧ w = w' := by
  have hb0 : w.cell? ⟨q, 0, none⟩ = some (.slice (some ⟨wb, 0, none⟩) 4096 4096) := by simp [World.cell?, R.raw.box]
  have hc := R.raw.words.cell (i := a / 4) (by omega)
  have hw := be_rng m (4 * (a / 4)) 4 (fun i hi => R.rng _ (by omega))
  have HB := Lib.hid (byte_of m a (fun i hi => R.rng _ (by omega)))
  have hm := R.rng a ha
  have hw2 : be m (4 * (a / 4)) 4 < 4294967296 := hw.2
  have hw1 := hw.1
  clear hw
  generalize be m (4 * (a / 4)) 4 = x at *
  have q1 : ((a : Int) / 4).toNat = a / 4 := by omega
  go_enter Tryd.func41, Tryd.ntmps41
  go_wp2_with fail
  refine (part_any x (24 - 8 * ((a : Int) % 4)) 8 _ ⟨hw1, hw2⟩ (by omega) (by omega)).mono ?_
  rintro e w' ⟨rfl, rfl⟩
  rw [HB.out]
  go_wp2_with fail
  go_ret
  exact ⟨ret_i (by omega), rfl⟩
end Go.Proofs.YtlmnmncdoiealaaDoor
