import Derived.Test.YtlmnmncdoiealaaDoorKdz03
import Derived.Test.YtlmnmncdoiealaaDoorKdz04
import Derived.Deep.RegionHeld3
import Derived.Test.YtlmnmncdoiealaaDoorOptDefs

/- Stored -/
/- The closed fact 'stored' of the laws on memory; what New leaves, as a Ram. -/
namespace Go.Proofs.YtlmnmncdoiealaaDoor
open Go.RowKit Go.Deep
set_option linter.unusedVariables false

theorem NewRel.ram {w w' : World} {ws : Nat → Int} {n : Nat} (h : NewRel w w' ws n) : RamAt w' (w.heap.size + 3) w.heap.size (w.heap.size + 1) (w.heap.size + 2) 16384 (ramOf n ws) where
  box := h.box
  bytes := RowTo.of_row h.bytes
  room := by omega
  rng := fun i _ => by
    unfold ramOf Wb
    split <;> omega
  apart := by omega

theorem new_any (len cap : Nat) (A : Option Addr) (w : World) (ws : Nat → Int) (hR : Reads w A len cap (fun i => .int .u32 (ws i))) (hc : cap ≤ 9223372036854775807) (hr : ∀ i, i < len → 0 ≤ ws i ∧ ws i < 4294967296) :
    Calls Tryd.prog 12 #[.slice A len cap] w fun e w' => e = .returned (.pointer (some ⟨w.heap.size + 3, 0, none⟩)) ∧ NewRel w w' ws (min len 4096) := by
  obtain ⟨hl, rfl | ⟨b, o, rfl, hb, hcell⟩⟩ := hR
  · obtain rfl : len = 0 := by omega
    exact new_nil A w ws
  · exact new_some len cap w b o ws hl hc _ rfl hb hcell hr

theorem load_okI (r pb pw ph cp : Nat) (m : Nat → Int) (a n : Int) (s : Bool) (w : World) (R : RamAt w r pb pw ph cp m) (h0 : 0 ≤ a) (h : rightC a n = 0) :
    Calls Tryd.prog 14 #[.pointer (some ⟨r, 0, none⟩), .int .u32 a, .int .i64 n, .bool s] w fun e w' => e = .returned (.tuple #[.int .u32 (Wd.wide (be m a.toNat n.toNat) (8 * n) s), .nilIface]) ∧ w = w' := by
  obtain ⟨a', rfl⟩ := Int.eq_ofNat_of_zero_le h0
  obtain ⟨n', rfl⟩ := Int.eq_ofNat_of_zero_le (show 0 ≤ n by have := (rightC_ok h).1; omega)
  exact load_ok r pb pw ph cp m a' n' s w R h
theorem store_coldI (r pb pw ph cp : Nat) (m : Nat → Int) (a n v : Int) (w : World) (R : RamAt w r pb pw ph cp m) (h0 : 0 ≤ a) (hv : 0 ≤ v ∧ v < 4294967296) (h : rightC a n = 0)
    (hk : ∀ w', Keeps (· = pb) w w' → (Instr.lookup 84 (.map (some pw)) (.int .i64 (a / 256)) false).run Tryd.prog w' = .ok (.bool false) w') :
    Calls Tryd.prog 17 #[.pointer (some ⟨r, 0, none⟩), .int .u32 a, .int .i64 n, .int .u32 v] w fun e w' => e = .returned .nilIface ∧ RamAt w' r pb pw ph cp (stTo m a.toNat n.toNat v n.toNat) ∧ Keeps (· = pb) w w' := by
  obtain ⟨a', rfl⟩ := Int.eq_ofNat_of_zero_le h0
  obtain ⟨n', rfl⟩ := Int.eq_ofNat_of_zero_le (show 0 ≤ n by have := (rightC_ok h).1; omega)
  exact store_cold r pb pw ph cp m a' n' v w R hv h hk
/-- a store while no page is watched -/
theorem store_empty (r pb pw ph cp c : Nat) (m : Nat → Int) (a n v : Int) (w : World) (R : RamAt w r pb pw ph cp m) (hw : w.heap[pw]? = some (.map #[] c)) (h0 : 0 ≤ a) (hv : 0 ≤ v ∧ v < 4294967296) (h : rightC a n = 0) :
    Calls Tryd.prog 17 #[.pointer (some ⟨r, 0, none⟩), .int .u32 a, .int .i64 n, .int .u32 v] w fun e w' => e = .returned .nilIface ∧ RamAt w' r pb pw ph cp (stTo m a.toNat n.toNat v n.toNat) ∧ Keeps (· = pb) w w' :=
  store_coldI r pb pw ph cp m a n v w R h0 hv h fun w' hk => by
    have := (rightC_ok h).2.2
    exact look_empty w' pw c _ (hk.map hw (Ne.symm R.apart.2.2.2.1)) (WalkArith.wf_i64 (by omega))

set_option maxRecDepth 100000 in
set_option maxHeartbeats 1000000 in
theorem stored_any (w : World) :
    Calls Tryd.prog 11 #[] w fun e w' => e = .returned (.bool true) ∧ Keeps (fun _ => False) w w' := by
  go_enter Tryd.func11, Tryd.ntmps11
  go_wp2_with fail
  refine (new_any 1 1 _ _ (fun _ => 16909060) ⟨by omega, .inr ⟨_, _, rfl, by simp, fun i hi => ?_⟩⟩ (by omega) (fun _ _ => by omega)).mono ?_
  · obtain rfl : i = 0 := by omega
    simp [World.cell?_alloc_new]
  rintro e w1 ⟨rfl, hN⟩
  go_wp2_with fail
  have hR := hN.ram
  have hW := hN.watch
  have hK := hN.keeps
  rw [nblk_alloc] at hR hW
  have HV1 : Hid (Wd.wide (be (ramOf (min 1 4096) (fun _ => 16909060)) 1 1) (8 * 1) false = 2) := Lib.hid (by decide)
  refine (load_okI _ _ _ _ _ _ 1 1 false _ hR (by omega) (by decide)).mono ?_
  rintro e w' ⟨rfl, rfl⟩
  rw [show Wd.wide (be (ramOf (min 1 4096) (fun _ => 16909060)) (1 : Int).toNat (1 : Int).toNat) (8 * 1) false = 2 from HV1.out]
  go_wp2_with fail
  refine (store_empty _ _ _ _ _ _ _ 2 2 43707 _ hR hW (by omega) (by omega) (by decide)).mono ?_
  rintro e w2 ⟨rfl, hR2, hK2⟩
  go_wp2_with fail
  refine (words_any _ _ _ _ _ _ _ hR2).mono ?_
  rintro e w3 ⟨rfl, hrow, hK3⟩
  have hc := hrow.cell (i := 0) (by omega)
  have HV2 : be (stTo (ramOf (min 1 4096) (fun _ => 16909060)) (2 : Int).toNat (2 : Int).toNat 43707 (2 : Int).toNat) (4 * 0) 4 = 16951995 := by decide
  rw [HV2] at hc
  go_wp2_with fail
  go_ret
  exact ⟨rfl, ((((Keeps.refl _ w).alloc _).trans hK (fun _ _ h => h)).trans hK2 (fun b hb e => by omega)).trans hK3 (fun _ _ h => h)⟩

/-- what a load without a sign gives -/
theorem wide_be {m : Nat → Int} {a n : Nat} (hn : n = 1 ∨ n = 2 ∨ n = 4) (hm : ∀ i, i < n → 0 ≤ m (a + i) ∧ m (a + i) < 256) : Wd.wide (be m a n) (8 * n) false = be m a n := by
  have h := be_rng m a n hm
  rcases hn with rfl | rfl | rfl
  all_goals
    rw [Wd.wide, if_neg (by omega), if_neg (by simp)]
    exact Int.emod_eq_of_lt h.1 h.2
theorem wide_be4 {m : Nat → Int} {a : Nat} (hm : ∀ i, i < 4 → 0 ≤ m (a + i) ∧ m (a + i) < 256) : Wd.wide (be m a 4) 32 true = be m a 4 := by
  have h := be_rng m a 4 hm
  have h2 : be m a 4 < 4294967296 := h.2
  rw [Wd.wide, if_neg (by omega)]
  simp only [true_and]
  show (if (4294967296 : Int) ≤ 2 * (be m a 4 % 4294967296) then (be m a 4 % 4294967296 - 4294967296) % 4294967296 else be m a 4 % 4294967296) = _
  split <;> omega
end Go.Proofs.YtlmnmncdoiealaaDoor

/- Alike -/
/- The walk of AlikeWords over words that are alike. -/
namespace Go.Proofs.YtlmnmncdoiealaaDoor
open Go.RowKit Go.Deep
set_option linter.unusedVariables false

set_option maxHeartbeats 1000000 in
theorem alike_same (a b n ca cb : Nat) (f : Nat → Int) (w : World) (hn : n ≤ 4096) (hca : n ≤ ca ∧ ca ≤ 9223372036854775807) (hcb : n ≤ cb ∧ cb ≤ 9223372036854775807)
    (ha : ∀ i, i < n → w.cell? ⟨a, i, none⟩ = some (.int .u32 (f i))) (hb : ∀ i, i < n → w.cell? ⟨b, i, none⟩ = some (.int .u32 (f i))) :
    Calls Tryd.prog 25 #[.slice (some ⟨a, 0, none⟩) n ca, .slice (some ⟨b, 0, none⟩) n cb] w fun e w' => e = .returned (.int .i64 1) ∧ Keeps (fun _ => False) w w' := by
  go_enter Tryd.func25, Tryd.ntmps25
  go_wp2_with fail
  go_loopw [5] (fun s5 wr => ∃ i : Nat, i ≤ n ∧ s5 = .int .i64 i ∧ Keeps (fun _ => False) w wr) (fun s5 _ => n - (intOf s5).toNat)
  case atStart => exact ⟨0, by omega, rfl, Keeps.refl _ w⟩
  case round =>
    obtain ⟨i, hi, rfl, hK⟩ := hrel
    by_cases hlt : i < n
    · have h1 := hK.cell' (ha i hlt) (fun f => f)
      have h2 := hK.cell' (hb i hlt) (fun f => f)
      go_wp2_with fail
      go_quiet (fail)
      go_wp2_with fail
      go_roundw
      case rel => exact ⟨i + 1, by omega, by go_num, hK.drewN _⟩
      case measure => simp [intOf]; omega
    · obtain rfl : i = n := by omega
      go_wp2_with fail
      go_ret
      exact ⟨rfl, hK⟩
end Go.Proofs.YtlmnmncdoiealaaDoor

/- RefNewD -/
/- The walks of the reference's NewRam and NewBus. -/
namespace Go.Proofs.YtlmnmncdoiealaaDoor
open Go.RowKit Go.Deep
set_option linter.unusedVariables false

/-- words as they are laid -/
def wdOf (n : Nat) (ws : Nat → Int) (i : Nat) : Int := if i < n then ws i else 0
theorem be_ramOf (n : Nat) (ws : Nat → Int) (i : Nat) (hr : ∀ i, i < n → 0 ≤ ws i ∧ ws i < 4294967296) : be (ramOf n ws) (4 * i) 4 = wdOf n ws i := by
  rw [be4]
  unfold ramOf wdOf Wb
  by_cases h : i < n
  · have := hr i h
    rw [if_pos (by omega), if_pos (by omega), if_pos (by omega), if_pos (by omega), if_pos h]
    have e0 : 4 * i / 4 = i := by omega
    have e1 : (4 * i + 1) / 4 = i := by omega
    have e2 : (4 * i + 2) / 4 = i := by omega
    have e3 : (4 * i + 3) / 4 = i := by omega
    have f0 : 4 * i % 4 = 0 := by omega
    have f1 : (4 * i + 1) % 4 = 1 := by omega
    have f2 : (4 * i + 2) % 4 = 2 := by omega
    have f3 : (4 * i + 3) % 4 = 3 := by omega
    rw [e0, e1, e2, e3, f0, f1, f2, f3]
    show 16777216 * (ws i / 16777216 % 256) + 65536 * (ws i / 65536 % 256) + 256 * (ws i / 256 % 256) + ws i / 1 % 256 = ws i
    omega
  · rw [if_neg (by omega), if_neg (by omega), if_neg (by omega), if_neg (by omega), if_neg h]
    omega

/-- where NewRam stands when i words are laid -/
structure RefNewRel (w wr : World) (q wb tb hb : Nat) (ws : Nat → Int) (i : Nat) : Prop where
  keeps : Keeps (fun _ => False) w wr
  low : w.heap.size ≤ q ∧ w.heap.size ≤ wb ∧ w.heap.size ≤ tb ∧ w.heap.size ≤ hb
  ram : RefW wr q wb tb hb (wdOf i ws) (fun _ => false) (fun _ => false)
theorem RefNewRel.step {w wr : World} {q wb tb hb : Nat} {ws : Nat → Int} {i : Nat} (h : RefNewRel w wr q wb tb hb ws i) (hi : i < 4096) : RefNewRel w ((wr.setCell ⟨wb, i, none⟩ (.int .u32 (ws i))).drew) q wb tb hb ws (i + 1) := by
  have k : Keeps (· = wb) wr ((wr.setCell ⟨wb, i, none⟩ (.int .u32 (ws i))).drew) := ((Keeps.refl (· = wb) wr).setCell (a := ⟨wb, i, none⟩) (fun _ => rfl) _).drew
  obtain ⟨a1, a2, a3, a4, a5, a6⟩ := h.ram.apart
  have hl := h.low
  refine ⟨h.keeps.trans k (fun b hb e => by omega), h.low, ⟨(k.block q (Array.getElem?_eq_some_iff.1 h.ram.box).1 a1).trans h.ram.box, ?_, k.rowTo h.ram.watch (Ne.symm a4), k.rowTo h.ram.hit (Ne.symm a5), h.ram.apart⟩⟩
  refine (RowTo.drew (h.ram.words.set i _)).congr fun j hj => ?_
  unfold wdOf
  by_cases e : j = i
  · rw [if_pos e, if_pos (by omega), e]
  · rw [if_neg e]
    by_cases h1 : j < i
    · rw [if_pos h1, if_pos (by omega)]
    · rw [if_neg h1, if_neg (by omega)]
theorem RefNewRel.done {w wr : World} {q wb tb hb : Nat} {ws : Nat → Int} {i : Nat} (h : RefNewRel w wr q wb tb hb ws i) (hr : ∀ j, j < i → 0 ≤ ws j ∧ ws j < 4294967296) :
    RefAt wr q wb tb hb (ramOf i ws) (fun _ => false) (fun _ => false) :=
  ⟨h.ram.congr fun j _ => (be_ramOf i ws j hr).symm, fun j _ => by
    unfold ramOf Wb
    split <;> omega⟩
theorem rowTo_made (w : World) (z : Value) (n : Nat) (t : TypeId) : RowTo (w.alloc (.cells (madeCells #[z] n) t)) w.heap.size t n (fun _ => z) := RowTo.of_row (World.rowIs_made w z n t)

/-- what NewRam leaves -/
def RefMade (w : World) (ws : Nat → Int) (n : Nat) (e : Ending) (w' : World) : Prop :=
  ∃ q wb tb hb, e = .returned (.pointer (some ⟨q, 0, none⟩)) ∧ RefAt w' q wb tb hb (ramOf n ws) (fun _ => false) (fun _ => false) ∧ (w.heap.size ≤ q ∧ w.heap.size ≤ wb ∧ w.heap.size ≤ tb ∧ w.heap.size ≤ hb) ∧ Keeps (fun _ => False) w w'

/-- when the rows of bools and the box are made -/
structure RefPre (w W : World) (q tb hb : Nat) : Prop where
  keeps : Keeps (fun _ => False) w W
  low : w.heap.size ≤ q ∧ w.heap.size ≤ tb ∧ w.heap.size ≤ hb
  box : W.heap[q]? = some (.cells #[.slice none 0 0, .slice (some ⟨tb, 0, none⟩) 64 64, .slice (some ⟨hb, 0, none⟩) 64 64] 61 (0, 0))
  watch : RowTo W tb 4 64 (fun _ => .bool false)
  hit : RowTo W hb 4 64 (fun _ => .bool false)
  apart : q ≠ tb ∧ q ≠ hb ∧ tb ≠ hb
theorem refPre_of (w W : World) (tb hb q : Nat) (h : (tb = w.heap.size ∧ hb = w.heap.size + 1 ∨ tb = w.heap.size + 1 ∧ hb = w.heap.size) ∧ q = w.heap.size + 1 + 1)
    (e : W = (((w.alloc (.cells (falseRow 64) 4)).alloc (.cells (falseRow 64) 4)).alloc (.cells #[.slice none 0 0, .slice (some ⟨tb, 0, none⟩) 64 64, .slice (some ⟨hb, 0, none⟩) 64 64] 61)).drew) : RefPre w W q tb hb := by
  have r1 := rowTo_made w (.bool false) 64 4
  have r2 := rowTo_made (w.alloc (.cells (falseRow 64) 4)) (.bool false) 64 4
  have r1' := r1.alloc (.cells (falseRow 64) 4)
  have k := (((Keeps.refl (fun _ => False) w).alloc (.cells (falseRow 64) 4)).alloc (.cells (falseRow 64) 4)).alloc (.cells #[.slice none 0 0, .slice (some ⟨tb, 0, none⟩) 64 64, .slice (some ⟨hb, 0, none⟩) 64 64] 61)
  have hbx := blk_alloc_new ((w.alloc (.cells (falseRow 64) 4)).alloc (.cells (falseRow 64) 4)) (.cells #[.slice none 0 0, .slice (some ⟨tb, 0, none⟩) 64 64, .slice (some ⟨hb, 0, none⟩) 64 64] 61)
  rw [nblk_alloc] at r2
  rw [nblk_alloc, nblk_alloc] at hbx
  obtain ⟨h, rfl⟩ := h
  subst e
  rcases h with ⟨rfl, rfl⟩ | ⟨rfl, rfl⟩
  · exact ⟨k.drew, by omega, hbx, (r1'.alloc _).drew, (r2.alloc _).drew, by omega⟩
  · exact ⟨k.drew, by omega, hbx, (r2.alloc _).drew, (r1'.alloc _).drew, by omega⟩
theorem RefPre.start {w W : World} {q tb hb : Nat} (h : RefPre w W q tb hb) (ws : Nat → Int) :
    RefNewRel w ((W.alloc (.cells (zeroRow32 4096) 29)).setCell ⟨q, 0, none⟩ (.slice (some ⟨W.heap.size, 0, none⟩) 4096 4096)) q W.heap.size tb hb ws 0 := by
  have l1 := h.watch.lt
  have l2 := h.hit.lt
  have l3 : q < W.heap.size := (Array.getElem?_eq_some_iff.1 h.box).1
  have hs := h.keeps.size
  have hl := h.low
  have ha := h.apart
  have k1 := h.keeps.alloc (.cells (zeroRow32 4096) 29)
  have hbx := (blk_alloc_lt W (.cells (zeroRow32 4096) 29) q l3).trans h.box
  have ks := Keeps.one (W.alloc (.cells (zeroRow32 4096) 29)) q 0 (.slice (some ⟨W.heap.size, 0, none⟩) 4096 4096)
  refine ⟨k1.trans ks (fun b hb e => by omega), by omega, ⟨set_block hbx 0 _, ?_, ks.rowTo (h.watch.alloc _) (by omega), ks.rowTo (h.hit.alloc _) (by omega), by omega⟩⟩
  exact (ks.rowTo (rowTo_made W (.int .u32 0) 4096 29) (by omega)).congr fun i _ => by simp [wdOf]

set_option maxRecDepth 100000 in
set_option maxHeartbeats 2000000 in
theorem refNew_any (len cap : Nat) (A : Option Addr) (w : World) (ws : Nat → Int) (hR : Reads w A len cap (fun i => .int .u32 (ws i))) (hc : cap ≤ 9223372036854775807) (hr : ∀ i, i < len → 0 ≤ ws i ∧ ws i < 4294967296) :
    Calls Tryd.prog 13 #[.slice A len cap] w (RefMade w ws (min len 4096)) := by
  have hmk := make_bools
  have hmw := make_words
  have hlc := hR.1
  have HR := Lib.hid hR
  have HX := Lib.hid hr
  clear hR hr
  go_enter Tryd.func13, Tryd.ntmps13
  go_wp2_with fail
  go_region_held3 (fun _ => True) (trivial) (fail)
  have hP := refPre_of w _ w.heap.size (w.heap.size + 1) (w.heap.size + 1 + 1) ⟨by omega, rfl⟩ rfl
  generalize World.drew _ = W at *
  generalize w.heap.size + 1 + 1 = q at *
  generalize w.heap.size + 1 = hb at *
  generalize w.heap.size = tb at *
  rotate_left
  have hP := refPre_of w _ (w.heap.size + 1) w.heap.size (w.heap.size + 1 + 1) ⟨by omega, rfl⟩ rfl
  generalize World.drew _ = W at *
  generalize w.heap.size + 1 + 1 = q at *
  generalize w.heap.size + 1 = tb at *
  generalize w.heap.size = hb at *
  all_goals
    have hS := hP.start ws
    have hbx := (blk_alloc_lt W (.cells (zeroRow32 4096) 29) q (Array.getElem?_eq_some_iff.1 hP.box).1).trans hP.box
    have c0 : (W.alloc (.cells (zeroRow32 4096) 29)).cell? ⟨q, 0, none⟩ = some (.slice none 0 0) := by simp [World.cell?, hbx]
    have f0 := frozen_of_block hbx 0
    have HS := Lib.hid hS
    clear hS hP hbx
    go_wp2_with fail
    generalize hW2 : (W.alloc (.cells (zeroRow32 4096) 29)).setCell ⟨q, 0, none⟩ (.slice (some ⟨W.heap.size, 0, none⟩) 4096 4096) = W2 at *
    clear hW2 c0 f0
    generalize W.heap.size = wb at *
    go_loopw [4] (fun s4 wr => ∃ i : Nat, i ≤ min len 4096 ∧ s4 = .int .i64 i ∧ RefNewRel w wr q wb tb hb ws i) (fun s4 _ => min len 4096 - (intOf s4).toNat)
    case atStart => exact ⟨0, Nat.zero_le _, rfl, HS.out⟩
    case round =>
      obtain ⟨i, hi, rfl, hN⟩ := hrel
      have cq : wr.cell? ⟨q, 0, none⟩ = some (.slice (some ⟨wb, 0, none⟩) 4096 4096) := by simp [World.cell?, hN.ram.box]
      by_cases h1 : i < len
      · by_cases h2 : i < 4096
        · obtain ⟨ab, ao, rfl, hcell⟩ : ∃ ab ao, A = some ⟨ab, ao, none⟩ ∧ wr.cell? ⟨ab, ao + i, none⟩ = some (.int .u32 (ws i)) := by
            obtain ⟨g1, g2 | ⟨ab, ao, g2, g3, g4⟩⟩ := HR.out.keep hN.keeps (fun _ _ _ h => h)
            · omega
            · exact ⟨ab, ao, g2, g4 i h1⟩
          have hr := HX.out i h1
          have cw := hN.ram.words.cell (i := i) h2
          have cf := hN.ram.words.frozen i
          have HN := Lib.hid (hN.step h2)
          have q0 : 0 ≤ (i : Int) := by omega
          have q1 : (i : Int) < 4096 := by omega
          have q2 : (i : Int) < len := by omega
          have q3 : ((i : Int)).toNat = i := by omega
          go_wp2_with fail
          go_still_tail 10, (by kernel_rfl)
          change wpList _ _ _ _ _ wr.drew
          go_wp2
          go_roundw
          case rel => exact ⟨i + 1, by omega, by go_num, HN.out⟩
          case measure => simp [intOf]; omega
        · have hi4 : i = 4096 := by omega
          have hm : min len 4096 = i := by omega
          have HM := Lib.hid hm
          have h3 : (i : Int) < len := by omega
          have h4 : ¬ (i : Int) < 4096 := by omega
          clear hm hi4
          have HN := Lib.hid hN
          go_wp2_with fail
          go_ret
          refine ⟨q, wb, tb, hb, rfl, ?_, HN.out.low, HN.out.keeps⟩
          rw [HM.out]
          exact HN.out.done (fun j hj => HX.out j (by omega))
      · have hm : min len 4096 = i := by omega
        have HM := Lib.hid hm
        clear hm
        have HN := Lib.hid hN
        go_wp2_with fail
        go_ret
        refine ⟨q, wb, tb, hb, rfl, ?_, HN.out.low, HN.out.keeps⟩
        rw [HM.out]
        exact HN.out.done (fun j hj => HX.out j (by omega))
end Go.Proofs.YtlmnmncdoiealaaDoor

/- MachDefs -/
/- A code's machine, said plainly. -/
namespace Go.Proofs.YtlmnmncdoiealaaDoor
namespace Ir
open Go.RowKit
set_option linter.unusedVariables false
/-- a store that waits -/
structure Wt where
  addr : Int
  size : Int
  v : Int
/-- a machine: its registers, its stores that wait -/
structure Mc where
  X : Nat → Int
  ws : List Wt
/-- memory behind stores -/
def pend (m : Nat → Int) (ws : List Wt) : Nat → Int := ws.foldl (fun m s => stTo m s.addr.toNat s.size.toNat s.v s.size.toNat) m
def setX (X : Nat → Int) (d v : Int) : Nat → Int := fun k => if k = d.toNat then v else X k
def rg (X : Nat → Int) (n : Int) : Int := X n.toNat
def loadV (m : Nat → Int) (ws : List Wt) (ad b : Int) : Int := Wd.wide (be (pend m ws) ad.toNat b.natAbs) (8 * b.natAbs) (decide (b < 0))
def overV (c : Nat) (a b : Int) : Bool := if c = 4 then !Wd.isS (Wd.sg a - Wd.sg b) else !Wd.isS (Wd.sg a + Wd.sg b)
def adr (a imm : Int) : Int := (a + imm) % 4294967296
/-- an op that does not leave; none: a trap -/
def doOp (m : Nat → Int) (W : Int → Bool) (c : Mc) (o : Op) : Option Mc :=
  if kn o.k = 1 then some { c with X := setX c.X o.d o.imm }
  else if kn o.k = 2 then some { c with X := setX c.X o.d (rg c.X o.a) }
  else if kn o.k = 3 ∨ kn o.k = 4 then (if overV (kn o.k) (rg c.X o.a) (rg c.X o.b) = true then none else some c)
  else if kn o.k = 5 then (if rightC (adr (rg c.X o.a) o.imm) o.b.natAbs = 0 then some { c with X := setX c.X o.d (loadV m c.ws (adr (rg c.X o.a) o.imm) o.b) } else none)
  else if kn o.k = 6 then (if rightC (adr (rg c.X o.a) o.imm) o.d = 0 ∧ W (adr (rg c.X o.a) o.imm / 256) = false then some { c with ws := c.ws ++ [⟨adr (rg c.X o.a) o.imm, o.d, rg c.X o.b⟩] } else none)
  else some { c with X := setX c.X o.d (value (kn o.k) (rg c.X o.a) (rg c.X o.b) (rg c.X o.d)) }
/-- where an op leaves for -/
def goesTo (o : Op) (a : Int) : Option Int := if kn o.k = 7 then (if a ≠ 0 then some o.imm else none) else if kn o.k = 8 then some o.imm else if kn o.k = 9 then some a else none
inductive Res where
  | trap (at_ : Int)
  | leave (pc : Int) (c : Mc)
  | fell (c : Mc)
/-- ops, one after the other -/
def evGo (m : Nat → Int) (W : Int → Bool) : Mc → List Op → Res
  | c, [] => .fell c
  | c, o :: r => if leaves (kn o.k) = true then (match goesTo o (rg c.X o.a) with | some pc => .leave pc c | none => evGo m W c r) else match doOp m W c o with | none => .trap o.at_ | some c' => evGo m W c' r
/-- the ranges of a machine -/
structure McOk (W : Int → Bool) (c : Mc) : Prop where
  X : ∀ k, k < 64 → 0 ≤ c.X k ∧ c.X k < 4294967296
  ws : ∀ s ∈ c.ws, rightC s.addr s.size = 0 ∧ 0 ≤ s.addr ∧ (0 ≤ s.v ∧ s.v < 4294967296) ∧ W (s.addr / 256) = false
/-- an op that is right: its registers, its sizes -/
structure OpIn (o : Op) : Prop where
  k : kn o.k ≠ 0
  d : kn o.k = 1 ∨ kn o.k = 2 ∨ kn o.k = 5 ∨ 10 ≤ kn o.k → 1 ≤ o.d ∧ o.d < 64
  a : 0 ≤ o.a ∧ o.a < 64
  b : kn o.k ≠ 5 → 0 ≤ o.b ∧ o.b < 64
  ld : kn o.k = 5 → o.b = 1 ∨ o.b = 2 ∨ o.b = 4 ∨ o.b = -1 ∨ o.b = -2
  sz : kn o.k = 6 → o.d = 1 ∨ o.d = 2 ∨ o.d = 4
  imm : 0 ≤ o.imm ∧ o.imm < 4294967296
theorem opIn_of {o : Op} {many : Int} (h : opErr o many = 0) (hi : 0 ≤ o.imm ∧ o.imm < 4294967296) : OpIn o := by
  have hle := kn_le o.k
  unfold opErr at h
  split at h
  · cases h
  rename_i hk
  split at h
  · cases h
  rename_i h2
  split at h
  · cases h
  rename_i h3
  rw [Bool.not_eq_false] at h2 h3
  simp only [Bool.and_eq_true, decide_eq_true_eq] at h2
  obtain ⟨⟨⟨hr, hb⟩, _⟩, _⟩ := h2
  unfold regs at hr
  unfold bytes at hb
  unfold bare at h3
  simp only [Bool.and_eq_true, Bool.or_eq_true, decide_eq_true_eq, Bool.not_eq_true'] at hr h3
  unfold hasD hasA hasB at hr
  unfold hasD hasA hasB at h3
  simp at hr h3
  refine ⟨hk, fun h => ?_, ?_, fun h => ?_, fun h => ?_, fun h => ?_, hi⟩
  · omega
  · omega
  · omega
  · rw [if_pos h] at hb
    simpa using hb
  · rw [if_neg (by omega), if_pos h] at hb
    simpa using hb
end Ir
end Go.Proofs.YtlmnmncdoiealaaDoor
