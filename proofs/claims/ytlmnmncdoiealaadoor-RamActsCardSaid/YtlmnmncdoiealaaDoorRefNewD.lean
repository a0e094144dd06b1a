
/- The walks of the reference's NewRam and NewBus. -/
import Derived.Test.YtlmnmncdoiealaaDoorRefPutD
import Derived.Test.YtlmnmncdoiealaaDoorAlike
import Derived.Deep.RegionHeld3
namespace Go.Proofs.YtlmnmncdoiealaaDoor
open Go.RowKit Go.Deep
set_option linter.unusedVariables false

/-- words as they are laid -/
def wdOf (n : Nat) (ws : Nat → Int) (i : Nat) : Int := if i < n then ws i else 0
theorem be_ramOf (n : Nat) (ws : Nat → Int) (i : Nat) (hr : ∀ i, i < n → 0 ≤ ws i ∧ ws i < 4294967296) : be (ramOf n ws) (4 * i) 4 = wdOf n ws i := by
  rw [be4]
  unfold ramOf wdOf Wb
  by_cases h : i < n
  · have := hr i h
    rw [if_pos (by omega), if_pos (by omega), if_pos (by omega), if_pos (by omega), if_pos h]
    have e0 : 4 * i / 4 = i := by omega
    have e1 : (4 * i + 1) / 4 = i := by omega
    have e2 : (4 * i + 2) / 4 = i := by omega
    have e3 : (4 * i + 3) / 4 = i := by omega
    have f0 : 4 * i % 4 = 0 := by omega
    have f1 : (4 * i + 1) % 4 = 1 := by omega
    have f2 : (4 * i + 2) % 4 = 2 := by omega
    have f3 : (4 * i + 3) % 4 = 3 := by omega
    rw [e0, e1, e2, e3, f0, f1, f2, f3]
    show 16777216 * (ws i / 16777216 % 256) + 65536 * (ws i / 65536 % 256) + 256 * (ws i / 256 % 256) + ws i / 1 % 256 = ws i
    omega
  · rw [if_neg (by omega), if_neg (by omega), if_neg (by omega), if_neg (by omega), if_neg h]
    omega

/-- where NewRam stands when i words are laid -/
structure RefNewRel (w wr : World) (q wb tb hb : Nat) (ws : Nat → Int) (i : Nat) : Prop where
  keeps : Keeps (fun _ => False) w wr
  low : w.heap.size ≤ q ∧ w.heap.size ≤ wb ∧ w.heap.size ≤ tb ∧ w.heap.size ≤ hb
  ram : RefW wr q wb tb hb (wdOf i ws) (fun _ => false) (fun _ => false)
theorem RefNewRel.step {w wr : World} {q wb tb hb : Nat} {ws : Nat → Int} {i : Nat} (h : RefNewRel w wr q wb tb hb ws i) (hi : i < 4096) : RefNewRel w ((wr.setCell ⟨wb, i, none⟩ (.int .u32 (ws i))).drew) q wb tb hb ws (i + 1) := by
  have k : Keeps (· = wb) wr ((wr.setCell ⟨wb, i, none⟩ (.int .u32 (ws i))).drew) := ((Keeps.refl (· = wb) wr).setCell (a := ⟨wb, i, none⟩) (fun _ => rfl) _).drew
  obtain ⟨a1, a2, a3, a4, a5, a6⟩ := h.ram.apart
  have hl := h.low
  refine ⟨h.keeps.trans k (fun b hb e => by omega), h.low, ⟨(k.block q (Array.getElem?_eq_some_iff.1 h.ram.box).1 a1).trans h.ram.box, ?_, k.rowTo h.ram.watch (Ne.symm a4), k.rowTo h.ram.hit (Ne.symm a5), h.ram.apart⟩⟩
  refine (RowTo.drew (h.ram.words.set i _)).congr fun j hj => ?_
  unfold wdOf
  by_cases e : j = i
  · rw [if_pos e, if_pos (by omega), e]
  · rw [if_neg e]
    by_cases h1 : j < i
    · rw [if_pos h1, if_pos (by omega)]
    · rw [if_neg h1, if_neg (by omega)]
theorem RefNewRel.done {w wr : World} {q wb tb hb : Nat} {ws : Nat → Int} {i : Nat} (h : RefNewRel w wr q wb tb hb ws i) (hr : ∀ j, j < i → 0 ≤ ws j ∧ ws j < 4294967296) :
    RefAt wr q wb tb hb (ramOf i ws) (fun _ => false) (fun _ => false) :=
  ⟨h.ram.congr fun j _ => (be_ramOf i ws j hr).symm, fun j _ => by
    unfold ramOf Wb
    split <;> omega⟩
theorem rowTo_made (w : World) (z : Value) (n : Nat) (t : TypeId) : RowTo (w.alloc (.cells (madeCells #[z] n) t)) w.heap.size t n (fun _ => z) := RowTo.of_row (World.rowIs_made w z n t)

/-- what NewRam leaves -/
def RefMade (w : World) (ws : Nat → Int) (n : Nat) (e : Ending) (w' : World) : Prop :=
  ∃ q wb tb hb, e = .returned (.pointer (some ⟨q, 0, none⟩)) ∧ RefAt w' q wb tb hb (ramOf n ws) (fun _ => false) (fun _ => false) ∧ (w.heap.size ≤ q ∧ w.heap.size ≤ wb ∧ w.heap.size ≤ tb ∧ w.heap.size ≤ hb) ∧ Keeps (fun _ => False) w w'

/-- when the rows of bools and the box are made -/
structure RefPre (w W : World) (q tb hb : Nat) : Prop where
  keeps : Keeps (fun _ => False) w W
  low : w.heap.size ≤ q ∧ w.heap.size ≤ tb ∧ w.heap.size ≤ hb
  box : W.heap[q]? = some (.cells #[.slice none 0 0, .slice (some ⟨tb, 0, none⟩) 64 64, .slice (some ⟨hb, 0, none⟩) 64 64] 61 (0, 0))
  watch : RowTo W tb 4 64 (fun _ => .bool false)
  hit : RowTo W hb 4 64 (fun _ => .bool false)
  apart : q ≠ tb ∧ q ≠ hb ∧ tb ≠ hb
theorem refPre_of (w W : World) (tb hb q : Nat) (h : (tb = w.heap.size ∧ hb = w.heap.size + 1 ∨ tb = w.heap.size + 1 ∧ hb = w.heap.size) ∧ q = w.heap.size + 1 + 1)
    (e : W = (((w.alloc (.cells (falseRow 64) 4)).alloc (.cells (falseRow 64) 4)).alloc (.cells #[.slice none 0 0, .slice (some ⟨tb, 0, none⟩) 64 64, .slice (some ⟨hb, 0, none⟩) 64 64] 61)).drew) : RefPre w W q tb hb := by
  have r1 := rowTo_made w (.bool false) 64 4
  have r2 := rowTo_made (w.alloc (.cells (falseRow 64) 4)) (.bool false) 64 4
  have r1' := r1.alloc (.cells (falseRow 64) 4)
  have k := (((Keeps.refl (fun _ => False) w).alloc (.cells (falseRow 64) 4)).alloc (.cells (falseRow 64) 4)).alloc (.cells #[.slice none 0 0, .slice (some ⟨tb, 0, none⟩) 64 64, .slice (some ⟨hb, 0, none⟩) 64 64] 61)
  have hbx := blk_alloc_new ((w.alloc (.cells (falseRow 64) 4)).alloc (.cells (falseRow 64) 4)) (.cells #[.slice none 0 0, .slice (some ⟨tb, 0, none⟩) 64 64, .slice (some ⟨hb, 0, none⟩) 64 64] 61)
  rw [nblk_alloc] at r2
  rw [nblk_alloc, nblk_alloc] at hbx
  obtain ⟨h, rfl⟩ := h
  subst e
  rcases h with ⟨rfl, rfl⟩ | ⟨rfl, rfl⟩
  · exact ⟨k.drew, by omega, hbx, (r1'.alloc _).drew, (r2.alloc _).drew, by omega⟩
  · exact ⟨k.drew, by omega, hbx, (r2.alloc _).drew, (r1'.alloc _).drew, by omega⟩
theorem RefPre.start {w W : World} {q tb hb : Nat} (h : RefPre w W q tb hb) (ws : Nat → Int) :
    RefNewRel w ((W.alloc (.cells (zeroRow32 4096) 29)).setCell ⟨q, 0, none⟩ (.slice (some ⟨W.heap.size, 0, none⟩) 4096 4096)) q W.heap.size tb hb ws 0 := by
  have l1 := h.watch.lt
  have l2 := h.hit.lt
  have l3 : q < W.heap.size := (Array.getElem?_eq_some_iff.1 h.box).1
  have hs := h.keeps.size
  have hl := h.low
  have ha := h.apart
  have k1 := h.keeps.alloc (.cells (zeroRow32 4096) 29)
  have hbx := (blk_alloc_lt W (.cells (zeroRow32 4096) 29) q l3).trans h.box
  have ks := Keeps.one (W.alloc (.cells (zeroRow32 4096) 29)) q 0 (.slice (some ⟨W.heap.size, 0, none⟩) 4096 4096)
  refine ⟨k1.trans ks (fun b hb e => by omega), by omega, ⟨set_block hbx 0 _, ?_, ks.rowTo (h.watch.alloc _) (by omega), ks.rowTo (h.hit.alloc _) (by omega), by omega⟩⟩
  exact (ks.rowTo (rowTo_made W (.int .u32 0) 4096 29) (by omega)).congr fun i _ => by simp [wdOf]

set_option maxRecDepth 100000 in
set_option maxHeartbeats 2000000 in
theorem refNew_any (len cap : Nat) (A : Option Addr) (w : World) (ws : Nat → Int) (hR : Reads w A len cap (fun i => .int .u32 (ws i))) (hc : cap ≤ 9223372036854775807) (hr : ∀ i, i < len → 0 ≤ ws i ∧ ws i < 4294967296) :
    Calls Tryd.prog 13 #[.slice A len cap] w (RefMade w ws (min len 4096)) := by
  have hmk := make_bools
  have hmw := make_words
  have hlc := hR.1
  have HR := Lib.hid hR
  have HX := Lib.hid hr
  clear hR hr
  go_enter Tryd.func13, Tryd.ntmps13
  go_wp2_with fail
  go_region_held3 (fun _ => True) (trivial) (fail)
  have hP := refPre_of w _ w.heap.size (w.heap.size + 1) (w.heap.size + 1 + 1) ⟨by omega, rfl⟩ rfl
  generalize World.drew _ = W at *
  generalize w.heap.size + 1 + 1 = q at *
  generalize w.heap.size + 1 = hb at *
  generalize w.heap.size = tb at *
  rotate_left
  have hP := refPre_of w _ (w.heap.size + 1) w.heap.size (w.heap.size + 1 + 1) ⟨by omega, rfl⟩ rfl
  generalize World.drew _ = W at *
  generalize w.heap.size + 1 + 1 = q at *
  generalize w.heap.size + 1 = tb at *
  generalize w.heap.size = hb at *
  all_goals
    have hS := hP.start ws
    have hbx := (blk_alloc_lt W (.cells (zeroRow32 4096) 29) q (Array.getElem?_eq_some_iff.1 hP.box).1).trans hP.box
    have c0 : (W.alloc (.cells (zeroRow32 4096) 29)).cell? ⟨q, 0, none⟩ = some (.slice none 0 0) := by simp [World.cell?, hbx]
    have f0 := frozen_of_block hbx 0
    have HS := Lib.hid hS
    clear hS hP hbx
    go_wp2_with fail
    generalize hW2 : (W.alloc (.cells (zeroRow32 4096) 29)).setCell ⟨q, 0, none⟩ (.slice (some ⟨W.heap.size, 0, none⟩) 4096 4096) = W2 at *
    clear hW2 c0 f0
    generalize W.heap.size = wb at *
    go_loopw [4] (fun s4 wr => ∃ i : Nat, i ≤ min len 4096 ∧ s4 = .int .i64 i ∧ RefNewRel w wr q wb tb hb ws i) (fun s4 _ => min len 4096 - (intOf s4).toNat)
    case atStart => exact ⟨0, Nat.zero_le _, rfl, HS.out⟩
    case round =>
      obtain ⟨i, hi, rfl, hN⟩ := hrel
      have cq : wr.cell? ⟨q, 0, none⟩ = some (.slice (some ⟨wb, 0, none⟩) 4096 4096) := by simp [World.cell?, hN.ram.box]
      by_cases h1 : i < len
      · by_cases h2 : i < 4096
        · obtain ⟨ab, ao, rfl, hcell⟩ : ∃ ab ao, A = some ⟨ab, ao, none⟩ ∧ wr.cell? ⟨ab, ao + i, none⟩ = some (.int .u32 (ws i)) := by
            obtain ⟨g1, g2 | ⟨ab, ao, g2, g3, g4⟩⟩ := HR.out.keep hN.keeps (fun _ _ _ h => h)
            · omega
            · exact ⟨ab, ao, g2, g4 i h1⟩
          have hr := HX.out i h1
          have cw := hN.ram.words.cell (i := i) h2
          have cf := hN.ram.words.frozen i
          have HN := Lib.hid (hN.step h2)
          have q0 : 0 ≤ (i : Int) := by omega
          have q1 : (i : Int) < 4096 := by omega
          have q2 : (i : Int) < len := by omega
          have q3 : ((i : Int)).toNat = i := by omega
          go_wp2_with fail
          go_still_tail 10, (by kernel_rfl)
          change wpList _ _ _ _ _ wr.drew
          go_wp2
          go_roundw
          case rel => exact ⟨i + 1, by omega, by go_num, HN.out⟩
          case measure => simp [intOf]; omega
        · have hi4 : i = 4096 := by omega
          have hm : min len 4096 = i := by omega
          have HM := Lib.hid hm
          have h3 : (i : Int) < len := by omega
          have h4 : ¬ (i : Int) < 4096 := by omega
          clear hm hi4
          have HN := Lib.hid hN
          go_wp2_with fail
          go_ret
          refine ⟨q, wb, tb, hb, rfl, ?_, HN.out.low, HN.out.keeps⟩
          rw [HM.out]
          exact HN.out.done (fun j hj => HX.out j (by omega))
      · have hm : min len 4096 = i := by omega
        have HM := Lib.hid hm
        clear hm
        have HN := Lib.hid hN
        go_wp2_with fail
        go_ret
        refine ⟨q, wb, tb, hb, rfl, ?_, HN.out.low, HN.out.keeps⟩
        rw [HM.out]
        exact HN.out.done (fun j hj => HX.out j (by omega))
end Go.Proofs.YtlmnmncdoiealaaDoor
