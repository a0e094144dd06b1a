import Derived.Test.YtlbdkcnbgdmpaaaGreatDoorOnez1
import Derived.StillTailTactics
import Derived.Test.YtlbdkcnbgdmpaaaGreatDoorOnez0
import Derived.Deep.RegionLawGrows
import Derived.Deep.RegionHeld3

/- RefPut -/
/- The walks of the reference's put, Load and Store. -/
namespace Go.Proofs.YtlbdkcnbgdmpaaaGreatDoor
open Go.RowKit Go.Deep
set_option linter.unusedVariables false

/-- a byte is laid -/
def upd (m : Nat → Int) (a : Nat) (v : Int) (i : Nat) : Int := if i = a then v else m i

/-- the word that a byte is laid into -/
theorem put_word (m : Nat → Int) (a : Nat) (v : Int) (hv : 0 ≤ v ∧ v < 256) (h : ∀ i, i < 4 → 0 ≤ m (4 * (a / 4) + i) ∧ m (4 * (a / 4) + i) < 256) :
    (be m (4 * (a / 4)) 4 - Wd.shift 60 (m a) (24 - 8 * ((a : Int) % 4)) + Wd.shift 60 v (24 - 8 * ((a : Int) % 4))) % 4294967296 = be (upd m a v) (4 * (a / 4)) 4 := by
  have h0 := h 0 (by omega)
  have h1 := h 1 (by omega)
  have h2 := h 2 (by omega)
  have h3 := h 3 (by omega)
  rw [be4, be4]
  rw [Nat.add_zero] at h0
  simp only [upd]
  have hr : a % 4 = 0 ∨ a % 4 = 1 ∨ a % 4 = 2 ∨ a % 4 = 3 := by omega
  rcases hr with hr | hr | hr | hr
  · have e2 : m a = m (4 * (a / 4)) := congrArg m (by omega)
    rw [if_pos (by omega), if_neg (by omega), if_neg (by omega), if_neg (by omega), e2, Wd.shift_60 _ _ 16777216 (by rw [show (24 - 8 * ((a : Int) % 4)) % 32 = 24 by omega]; rfl), Wd.shift_60 _ _ 16777216 (by rw [show (24 - 8 * ((a : Int) % 4)) % 32 = 24 by omega]; rfl)]
    omega
  · have e2 : m a = m (4 * (a / 4) + 1) := congrArg m (by omega)
    rw [if_neg (by omega), if_pos (by omega), if_neg (by omega), if_neg (by omega), e2, Wd.shift_60 _ _ 65536 (by rw [show (24 - 8 * ((a : Int) % 4)) % 32 = 16 by omega]; rfl), Wd.shift_60 _ _ 65536 (by rw [show (24 - 8 * ((a : Int) % 4)) % 32 = 16 by omega]; rfl)]
    omega
  · have e2 : m a = m (4 * (a / 4) + 2) := congrArg m (by omega)
    rw [if_neg (by omega), if_neg (by omega), if_pos (by omega), if_neg (by omega), e2, Wd.shift_60 _ _ 256 (by rw [show (24 - 8 * ((a : Int) % 4)) % 32 = 8 by omega]; rfl), Wd.shift_60 _ _ 256 (by rw [show (24 - 8 * ((a : Int) % 4)) % 32 = 8 by omega]; rfl)]
    omega
  · have e2 : m a = m (4 * (a / 4) + 3) := congrArg m (by omega)
    rw [if_neg (by omega), if_neg (by omega), if_neg (by omega), if_pos (by omega), e2, Wd.shift_60 _ _ 1 (by rw [show (24 - 8 * ((a : Int) % 4)) % 32 = 0 by omega]; rfl), Wd.shift_60 _ _ 1 (by rw [show (24 - 8 * ((a : Int) % 4)) % 32 = 0 by omega]; rfl)]
    omega
theorem shl_rng (a n : Int) : 0 ≤ Wd.shift 60 a n ∧ Wd.shift 60 a n < 4294967296 := by
  rw [Wd.shift_60 a n _ rfl]
  omega
theorem RefAt.put {w w' : World} {q wb tb hb : Nat} {m : Nat → Int} {wt ht : Nat → Bool} {a : Nat} {v : Int} (R : RefAt w q wb tb hb m wt ht) (ha : a < 16384) (hv : 0 ≤ v ∧ v < 256) (he : w' = (w.setCell ⟨wb, a / 4, none⟩ (.int .u32 (be (upd m a v) (4 * (a / 4)) 4))).drew) :
    RefAt w' q wb tb hb (upd m a v) wt ht ∧ Keeps (· = wb) w w' := by
  subst he
  have k : Keeps (· = wb) w ((w.setCell ⟨wb, a / 4, none⟩ (.int .u32 (be (upd m a v) (4 * (a / 4)) 4))).drew) := ((Keeps.refl (· = wb) w).setCell (a := ⟨wb, a / 4, none⟩) (fun _ => rfl) _).drew
  obtain ⟨a1, a2, a3, a4, a5, a6⟩ := R.raw.apart
  refine ⟨⟨⟨(k.block q (Array.getElem?_eq_some_iff.1 R.raw.box).1 a1).trans R.raw.box, ?_, k.rowTo R.raw.watch (Ne.symm a4), k.rowTo R.raw.hit (Ne.symm a5), R.raw.apart⟩, fun i hi => ?_⟩, k⟩
  · refine (RowTo.drew (R.raw.words.set (a / 4) _)).congr fun j hj => ?_
    by_cases e : j = a / 4
    · rw [if_pos e, e]
    · rw [if_neg e, be4, be4]
      simp only [upd]
      rw [if_neg (by omega), if_neg (by omega), if_neg (by omega), if_neg (by omega)]
  · unfold upd
    split
    · exact hv
    · exact R.rng i hi

set_option maxRecDepth 100000 in
set_option maxHeartbeats 2000000 in
theorem put_any (q wb tb hb : Nat) (m : Nat → Int) (wt ht : Nat → Bool) (a : Nat) (v : Int) (w : World) (R : RefAt w q wb tb hb m wt ht) (ha : a < 16384) (hv : 0 ≤ v ∧ v < 256) :
    Calls Tryz.prog 19 #[.pointer (some ⟨q, 0, none⟩), .int .i64 a, .int .u8 v] w fun e w' => e = .returned (.tuple #[]) ∧ RefAt w' q wb tb hb (upd m a v) wt ht ∧ Keeps (· = wb) w w' := by
  have hb0 : w.cell? ⟨q, 0, none⟩ = some (.slice (some ⟨wb, 0, none⟩) 4096 4096) := by simp [World.cell?, R.raw.box]
  have hc := R.raw.words.cell (i := a / 4) (by omega)
  have hf := R.raw.words.frozen (a / 4)
  have hw := be_rng m (4 * (a / 4)) 4 (fun i hi => R.rng _ (by omega))
  have HB := Lib.hid (put_word m a v hv (fun i hi => R.rng _ (by omega)))
  have hm := R.rng a ha
  have hw2 : be m (4 * (a / 4)) 4 < 4294967296 := hw.2
  have hw1 := hw.1
  clear hw
  have s1 := shl_rng (m a) (24 - 8 * ((a : Int) % 4))
  have s2 := shl_rng v (24 - 8 * ((a : Int) % 4))
  generalize be m (4 * (a / 4)) 4 = x at *
  have q1 : ((a : Int) / 4).toNat = a / 4 := by omega
  have q2 : (a : Int).tdiv 4 = a / 4 := Int.tdiv_eq_ediv_of_nonneg (by omega)
  have q3 : IntKind.i64.wrap ((a : Int) / 4) = a / 4 := IntWalk.i64_in _ (by omega)
  have q4 : 0 ≤ (a : Int) / 4 := by omega
  have q5 : (a : Int) / 4 < 4096 := by omega
  have hgo := fun w' h => RefAt.put (w' := w') R ha hv h
  have HGO := Lib.hid hgo
  clear hgo
  go_enter Tryz.func19, Tryz.ntmps19
  go_wp2_with fail
  refine (refAt_any q wb tb hb m wt ht a _ R ha).mono ?_
  rintro e w' ⟨rfl, rfl⟩
  go_wp2_with fail
  refine (shiftOf_any 60 (m a) (24 - 8 * ((a : Int) % 4)) _ (by omega) (by omega)).mono ?_
  rintro e w' ⟨rfl, rfl⟩
  generalize Wd.shift 60 (m a) (24 - 8 * ((a : Int) % 4)) = y at *
  go_wp2_with fail
  refine (shiftOf_any 60 v (24 - 8 * ((a : Int) % 4)) _ (by omega) (by omega)).mono ?_
  rintro e w' ⟨rfl, rfl⟩
  generalize Wd.shift 60 v (24 - 8 * ((a : Int) % 4)) = z at *
  go_wp2_with fail
  go_still_tail 19, (by kernel_rfl)
  change wpList _ _ _ _ _ w.drew
  go_wp2
  refine bodyPost_end (results_none rfl _ _ _) rfl ?_
  refine ⟨rfl, HGO.out _ ?_⟩
  rw [← HB.out, show ((x - y) % 4294967296 + z) % 4294967296 = (x - y + z) % 4294967296 by omega]

/-- what a Load answers: the number of its error, its value -/
theorem upd_st (m : Nat → Int) (a n j : Nat) (v : Int) (k : Nat) : upd (stTo m a n v j) (a + j) (sb v n j) k = stTo m a n v (j + 1) k := by
  unfold upd stTo
  by_cases h : k = a + j
  · subst h
    rw [if_pos rfl, if_pos (by omega), show a + j - a = j by omega]
  · rw [if_neg h]
    by_cases h1 : a ≤ k ∧ k < a + j
    · rw [if_pos h1, if_pos (by omega)]
    · rw [if_neg h1, if_neg (by omega)]
theorem sb_rng (v : Int) (n j : Nat) : 0 ≤ sb v n j ∧ sb v n j < 256 := by unfold sb; omega

set_option maxRecDepth 100000 in
set_option maxHeartbeats 1000000 in
theorem rload_ok (q wb tb hb : Nat) (m : Nat → Int) (wt ht : Nat → Bool) (a n : Nat) (s : Bool) (w : World) (R : RefAt w q wb tb hb m wt ht) (h : rightC a n = 0) :
    Calls Tryz.prog 39 #[.pointer (some ⟨q, 0, none⟩), .int .u32 a, .int .i64 n, .bool s] w fun e w' => e = .returned (.tuple #[.int .u32 (Wd.wide (be m a n) (8 * n) s), .int .i64 0]) ∧ w = w' := by
  obtain ⟨hn, hm, ha⟩ := rightC_ok h
  have ha' : a < 16384 := by omega
  have hn4 : n ≤ 4 := by omega
  have hn1 : 1 ≤ n := by omega
  have han : a + n ≤ 16384 := by
    have hn' : n = 1 ∨ n = 2 ∨ n = 4 := by omega
    rcases hn' with rfl | rfl | rfl <;> omega
  have HG := Lib.hid (fun i (hi : i < n) => R.rng (a + i) (by omega))
  have hwf : (Lit.int .i64 (n : Int)).wf = true := WalkArith.wf_i64 (by omega)
  clear hn hm ha
  go_enter Tryz.func39, Tryz.ntmps39
  go_wp2_with fail
  refine (reach_any a n _ (by omega) hwf).mono ?_
  rintro e w' ⟨rfl, rfl⟩
  rw [h]
  go_wp2_with fail
  go_loop [11, 12] (fun s11 s12 => ∃ i : Nat, i ≤ n ∧ s12 = .int .i64 i ∧ s11 = .int .i64 (be m a i)) (fun _ s12 => n - (intOf s12).toNat)
  case atStart => exact ⟨0, Nat.zero_le _, rfl, rfl⟩
  case round =>
    obtain ⟨i, hi, rfl, rfl⟩ := hrel
    have hr := be_rng m a i (fun k hk => HG.out k (by omega))
    by_cases hlt : i < n
    · obtain ⟨g1, g2⟩ := HG.out i hlt
      have hpw : (256 : Int) ^ i ≤ 16777216 := by
        have hi4 : i = 0 ∨ i = 1 ∨ i = 2 ∨ i = 3 := by omega
        rcases hi4 with rfl | rfl | rfl | rfl <;> decide
      have hr2 := hr.2
      go_wp2_with fail
      refine (refAt_any q wb tb hb m wt ht (a + i) _ R (by omega)).mono ?_
      rintro e w' ⟨rfl, rfl⟩
      go_wp2_with fail
      go_round
      case rel => exact ⟨i + 1, by omega, by go_num, rfl⟩
      case measure => simp [intOf]; omega
    · obtain rfl : i = n := by omega
      have hpw : (256 : Int) ^ i ≤ 4294967296 := by
        have hi4 : i = 1 ∨ i = 2 ∨ i = 3 ∨ i = 4 := by omega
        rcases hi4 with rfl | rfl | rfl | rfl <;> decide
      have hr2 := hr.2
      go_wp2_with fail
      refine (wideOf_any _ _ _ _ (by omega)).mono ?_
      rintro e w' ⟨rfl, rfl⟩
      go_wp2_with fail
      go_ret2
      exact ⟨rfl, rfl⟩

set_option maxRecDepth 100000 in
set_option maxHeartbeats 1000000 in
theorem rload_bad (q : Addr) (a n : Int) (s : Bool) (w : World) (ha : 0 ≤ a ∧ a < 4294967296) (hn : (Lit.int .i64 n).wf = true) (h : rightC a n ≠ 0) :
    Calls Tryz.prog 39 #[.pointer (some q), .int .u32 a, .int .i64 n, .bool s] w fun e w' => e = .returned (.tuple #[.int .u32 0, .int .i64 (rightC a n)]) ∧ w = w' := by
  have h1 : 0 < rightC a n := by omega
  have h2 : rightC a n < 11 := by unfold rightC; split <;> (try split) <;> (try split) <;> omega
  go_enter Tryz.func39, Tryz.ntmps39
  go_wp2_with fail
  refine (reach_any a n _ ha hn).mono ?_
  rintro e w' ⟨rfl, rfl⟩
  generalize hg : rightC a n = c at *
  have HG := Lib.hid hg
  clear hg
  go_wp2_with fail
  go_ret2
  exact ⟨by rw [HG.out]; rfl, rfl⟩

set_option maxRecDepth 100000 in
set_option maxHeartbeats 2000000 in
theorem rstore_ok (q wb tb hb : Nat) (m : Nat → Int) (wt ht : Nat → Bool) (a n : Nat) (v : Int) (w : World) (R : RefAt w q wb tb hb m wt ht) (hv : 0 ≤ v ∧ v < 4294967296) (h : rightC a n = 0) :
    Calls Tryz.prog 10 #[.pointer (some ⟨q, 0, none⟩), .int .u32 a, .int .i64 n, .int .u32 v] w fun e w' => e = .returned (.int .i64 0) ∧
      RefAt w' q wb tb hb (stTo m a n v n) wt (fun p => ht p || (decide (p = a / 256) && wt (a / 256))) ∧ Keeps (fun k => k = wb ∨ k = hb) w w' := by
  obtain ⟨hn, hm, ha⟩ := rightC_ok h
  have ha' : a < 16384 := by omega
  have hn4 : n ≤ 4 := by omega
  have hn1 : 1 ≤ n := by omega
  have han : a + n ≤ 16384 := by
    have hn' : n = 1 ∨ n = 2 ∨ n = 4 := by omega
    rcases hn' with rfl | rfl | rfl <;> omega
  have hwf : (Lit.int .i64 (n : Int)).wf = true := WalkArith.wf_i64 (by omega)
  clear hn hm ha
  go_enter Tryz.func10, Tryz.ntmps10
  go_wp2_with fail
  refine (reach_any a n _ (by omega) hwf).mono ?_
  rintro e w' ⟨rfl, rfl⟩
  rw [h]
  go_wp2_with fail
  go_loopw [10] (fun s10 wr => ∃ i : Nat, i ≤ n ∧ s10 = .int .i64 i ∧ RefAt wr q wb tb hb (stTo m a n v i) wt ht ∧ Keeps (· = wb) w wr) (fun s10 _ => n - (intOf s10).toNat)
  case atStart => exact ⟨0, Nat.zero_le _, rfl, R.congr (fun i _ => by rw [stTo, if_neg (by omega)]), Keeps.refl _ _⟩
  case round =>
    obtain ⟨i, hi, rfl, hR, hS⟩ := hrel
    by_cases hlt : i < n
    · have hsb : v / 2 ^ (8 * ((n : Int) - 1 - i)).toNat % 2 ^ (8 : Int).toNat = sb v n i := by
        rw [sb, show (8 * ((n : Int) - 1 - i)).toNat = 8 * (n - 1 - i) by omega]; rfl
      have HSB := Lib.hid hsb
      clear hsb
      have hs2 := sb_rng v n i
      go_wp2_with fail
      refine (part_any v (8 * ((n : Int) - 1 - i)) 8 _ hv (by omega) (by omega)).mono ?_
      rintro e w' ⟨rfl, rfl⟩
      rw [HSB.out]
      generalize hg : sb v n i = x at *
      have HX := Lib.hid hg
      clear hg
      go_wp2_with fail
      refine (put_any q wb tb hb _ wt ht (a + i) x _ hR (by omega) hs2).mono ?_
      rintro e w' ⟨rfl, hR2, hK2⟩
      go_wp2_with fail
      go_roundw
      case rel => exact ⟨i + 1, by omega, by go_num, hR2.congr (fun k _ => by rw [← HX.out]; exact upd_st m a n i v k), hS.trans hK2 (fun _ _ h => h)⟩
      case measure => simp [intOf]; omega
    · obtain rfl : i = n := by omega
      have c1 : wr.cell? ⟨q, 1, none⟩ = some (.slice (some ⟨tb, 0, none⟩) 64 64) := by simp [World.cell?, hR.raw.box]
      have c2 : wr.cell? ⟨q, 2, none⟩ = some (.slice (some ⟨hb, 0, none⟩) 64 64) := by simp [World.cell?, hR.raw.box]
      have c3 := hR.raw.watch.cell (i := a / 256) (by omega)
      have c4 := hR.raw.hit.cell (i := a / 256) (by omega)
      have c5 := hR.raw.hit.frozen (a / 256)
      have q1 : ((a : Int) / 256).toNat = a / 256 := by omega
      have HK := Lib.hid (hS.mono (T := fun k => k = wb ∨ k = hb) (fun k _ h => Or.inl h))
      have hst : RefAt (wr.setCell ⟨hb, a / 256, none⟩ (.bool true)) q wb tb hb (stTo m a i v i) wt (fun p => if p = a / 256 then true else ht p) ∧ Keeps (fun k => k = wb ∨ k = hb) wr (wr.setCell ⟨hb, a / 256, none⟩ (.bool true)) := by
        have k := Keeps.setCell (S := (· = hb)) (Keeps.refl _ wr) (a := ⟨hb, a / 256, none⟩) (fun _ => rfl) (.bool true)
        obtain ⟨a1, a2, a3, a4, a5, a6⟩ := hR.raw.apart
        refine ⟨⟨⟨(k.block q (Array.getElem?_eq_some_iff.1 hR.raw.box).1 a3).trans hR.raw.box, k.rowTo hR.raw.words a5, k.rowTo hR.raw.watch a6, (hR.raw.hit.set (a / 256) _).congr (fun j _ => ?_), hR.raw.apart⟩, hR.rng⟩, k.mono (fun b _ h => Or.inr h)⟩
        split <;> rfl
      have HST := Lib.hid hst
      clear hst
      cases hwt : wt (a / 256)
      · rw [hwt] at c3
        have HT := Lib.hid hwt
        clear hwt
        go_wp2_with fail
        go_ret
        exact ⟨rfl, ⟨⟨hR.raw.box, hR.raw.words, hR.raw.watch, hR.raw.hit.congr (fun p _ => by simp [HT.out]), hR.raw.apart⟩, hR.rng⟩, HK.out⟩
      · rw [hwt] at c3
        have HT := Lib.hid hwt
        clear hwt
        go_wp2_with fail
        go_ret
        refine ⟨rfl, ⟨⟨HST.out.1.raw.box, HST.out.1.raw.words, HST.out.1.raw.watch, HST.out.1.raw.hit.congr (fun p _ => ?_), HST.out.1.raw.apart⟩, HST.out.1.rng⟩, HK.out.trans HST.out.2 (fun _ _ h => h)⟩
        by_cases hp : p = a / 256
        · simp [hp, HT.out]
        · simp [hp]
set_option maxRecDepth 100000 in
set_option maxHeartbeats 1000000 in
theorem rstore_bad (q : Addr) (a n v : Int) (w : World) (ha : 0 ≤ a ∧ a < 4294967296) (hn : (Lit.int .i64 n).wf = true) (h : rightC a n ≠ 0) :
    Calls Tryz.prog 10 #[.pointer (some q), .int .u32 a, .int .i64 n, .int .u32 v] w fun e w' => e = .returned (.int .i64 (rightC a n)) ∧ w = w' := by
  have h1 : 0 < rightC a n := by omega
  have h2 : rightC a n < 11 := by unfold rightC; split <;> (try split) <;> (try split) <;> omega
  go_enter Tryz.func10, Tryz.ntmps10
  go_wp2_with fail
  refine (reach_any a n _ ha hn).mono ?_
  rintro e w' ⟨rfl, rfl⟩
  generalize hg : rightC a n = c at *
  have HG := Lib.hid hg
  clear hg
  go_wp2_with fail
  go_ret
  exact ⟨by rw [HG.out]; rfl, rfl⟩
end Go.Proofs.YtlbdkcnbgdmpaaaGreatDoor

/- Stored -/
/- The closed fact 'stored' of the laws on memory; what New leaves, as a Ram. -/
namespace Go.Proofs.YtlbdkcnbgdmpaaaGreatDoor
open Go.RowKit Go.Deep
set_option linter.unusedVariables false

theorem NewRel.ram {w w' : World} {ws : Nat → Int} {n : Nat} (h : NewRel w w' ws n) : RamAt w' (w.heap.size + 3) w.heap.size (w.heap.size + 1) (w.heap.size + 2) 16384 (ramOf n ws) where
  box := h.box
  bytes := RowTo.of_row h.bytes
  room := by omega
  rng := fun i _ => by
    unfold ramOf Wb
    split <;> omega
  apart := by omega

theorem new_any (len cap : Nat) (A : Option Addr) (w : World) (ws : Nat → Int) (hR : Reads w A len cap (fun i => .int .u32 (ws i))) (hc : cap ≤ 9223372036854775807) (hr : ∀ i, i < len → 0 ≤ ws i ∧ ws i < 4294967296) :
    Calls Tryz.prog 15 #[.slice A len cap] w fun e w' => e = .returned (.pointer (some ⟨w.heap.size + 3, 0, none⟩)) ∧ NewRel w w' ws (min len 4096) := by
  obtain ⟨hl, rfl | ⟨b, o, rfl, hb, hcell⟩⟩ := hR
  · obtain rfl : len = 0 := by omega
    exact new_nil A w ws
  · exact new_some len cap w b o ws hl hc _ rfl hb hcell hr

theorem load_okI (r pb pw ph cp : Nat) (m : Nat → Int) (a n : Int) (s : Bool) (w : World) (R : RamAt w r pb pw ph cp m) (h0 : 0 ≤ a) (h : rightC a n = 0) :
    Calls Tryz.prog 35 #[.pointer (some ⟨r, 0, none⟩), .int .u32 a, .int .i64 n, .bool s] w fun e w' => e = .returned (.tuple #[.int .u32 (Wd.wide (be m a.toNat n.toNat) (8 * n) s), .nilIface]) ∧ w = w' := by
  obtain ⟨a', rfl⟩ := Int.eq_ofNat_of_zero_le h0
  obtain ⟨n', rfl⟩ := Int.eq_ofNat_of_zero_le (show 0 ≤ n by have := (rightC_ok h).1; omega)
  exact load_ok r pb pw ph cp m a' n' s w R h
theorem store_coldI (r pb pw ph cp : Nat) (m : Nat → Int) (a n v : Int) (w : World) (R : RamAt w r pb pw ph cp m) (h0 : 0 ≤ a) (hv : 0 ≤ v ∧ v < 4294967296) (h : rightC a n = 0)
    (hk : ∀ w', Keeps (· = pb) w w' → (Instr.lookup 55 (.map (some pw)) (.int .i64 (a / 256)) false).run Tryz.prog w' = .ok (.bool false) w') :
    Calls Tryz.prog 9 #[.pointer (some ⟨r, 0, none⟩), .int .u32 a, .int .i64 n, .int .u32 v] w fun e w' => e = .returned .nilIface ∧ RamAt w' r pb pw ph cp (stTo m a.toNat n.toNat v n.toNat) ∧ Keeps (· = pb) w w' := by
  obtain ⟨a', rfl⟩ := Int.eq_ofNat_of_zero_le h0
  obtain ⟨n', rfl⟩ := Int.eq_ofNat_of_zero_le (show 0 ≤ n by have := (rightC_ok h).1; omega)
  exact store_cold r pb pw ph cp m a' n' v w R hv h hk
/-- a store while no page is watched -/
theorem store_empty (r pb pw ph cp c : Nat) (m : Nat → Int) (a n v : Int) (w : World) (R : RamAt w r pb pw ph cp m) (hw : w.heap[pw]? = some (.map #[] c)) (h0 : 0 ≤ a) (hv : 0 ≤ v ∧ v < 4294967296) (h : rightC a n = 0) :
    Calls Tryz.prog 9 #[.pointer (some ⟨r, 0, none⟩), .int .u32 a, .int .i64 n, .int .u32 v] w fun e w' => e = .returned .nilIface ∧ RamAt w' r pb pw ph cp (stTo m a.toNat n.toNat v n.toNat) ∧ Keeps (· = pb) w w' :=
  store_coldI r pb pw ph cp m a n v w R h0 hv h fun w' hk => by
    have := (rightC_ok h).2.2
    exact look_empty w' pw c _ (hk.map hw (Ne.symm R.apart.2.2.2.1)) (WalkArith.wf_i64 (by omega))

/-- what a load without a sign gives -/
theorem wide_be {m : Nat → Int} {a n : Nat} (hn : n = 1 ∨ n = 2 ∨ n = 4) (hm : ∀ i, i < n → 0 ≤ m (a + i) ∧ m (a + i) < 256) : Wd.wide (be m a n) (8 * n) false = be m a n := by
  have h := be_rng m a n hm
  rcases hn with rfl | rfl | rfl
  all_goals
    rw [Wd.wide, if_neg (by omega), if_neg (by simp)]
    exact Int.emod_eq_of_lt h.1 h.2
theorem wide_be4 {m : Nat → Int} {a : Nat} (hm : ∀ i, i < 4 → 0 ≤ m (a + i) ∧ m (a + i) < 256) : Wd.wide (be m a 4) 32 true = be m a 4 := by
  have h := be_rng m a 4 hm
  have h2 : be m a 4 < 4294967296 := h.2
  rw [Wd.wide, if_neg (by omega)]
  simp only [true_and]
  show (if (4294967296 : Int) ≤ 2 * (be m a 4 % 4294967296) then (be m a 4 % 4294967296 - 4294967296) % 4294967296 else be m a 4 % 4294967296) = _
  split <;> omega
end Go.Proofs.YtlbdkcnbgdmpaaaGreatDoor

/- Alike -/
/- The walk of AlikeWords over words that are alike. -/
namespace Go.Proofs.YtlbdkcnbgdmpaaaGreatDoor
open Go.RowKit Go.Deep
set_option linter.unusedVariables false

set_option maxHeartbeats 1000000 in
theorem alike_same (a b n ca cb : Nat) (f : Nat → Int) (w : World) (hn : n ≤ 4096) (hca : n ≤ ca ∧ ca ≤ 9223372036854775807) (hcb : n ≤ cb ∧ cb ≤ 9223372036854775807)
    (ha : ∀ i, i < n → w.cell? ⟨a, i, none⟩ = some (.int .u32 (f i))) (hb : ∀ i, i < n → w.cell? ⟨b, i, none⟩ = some (.int .u32 (f i))) :
    Calls Tryz.prog 30 #[.slice (some ⟨a, 0, none⟩) n ca, .slice (some ⟨b, 0, none⟩) n cb] w fun e w' => e = .returned (.int .i64 1) ∧ Keeps (fun _ => False) w w' := by
  go_enter Tryz.func30, Tryz.ntmps30
  go_wp2_with fail
  go_loopw [5] (fun s5 wr => ∃ i : Nat, i ≤ n ∧ s5 = .int .i64 i ∧ Keeps (fun _ => False) w wr) (fun s5 _ => n - (intOf s5).toNat)
  case atStart => exact ⟨0, by omega, rfl, Keeps.refl _ w⟩
  case round =>
    obtain ⟨i, hi, rfl, hK⟩ := hrel
    by_cases hlt : i < n
    · have h1 := hK.cell' (ha i hlt) (fun f => f)
      have h2 := hK.cell' (hb i hlt) (fun f => f)
      go_wp2_with fail
      go_quiet (fail)
      go_wp2_with fail
      go_roundw
      case rel => exact ⟨i + 1, by omega, by go_num, hK.drewN _⟩
      case measure => simp [intOf]; omega
    · obtain rfl : i = n := by omega
      go_wp2_with fail
      go_ret
      exact ⟨rfl, hK⟩
end Go.Proofs.YtlbdkcnbgdmpaaaGreatDoor

/- Grow -/
/- append to a row of one's own: the row stays where it was, or it is new. -/
namespace Go.Proofs.YtlbdkcnbgdmpaaaGreatDoor
open Go.RowKit Go.Deep
set_option linter.unusedVariables false

/-- where a row lies behind an append -/
def Moved (w : World) (v v' : Value) : Prop := v'.ownBlock = v.ownBlock ∨ ∀ k, v'.ownBlock = some k → w.heap.size ≤ k

theorem ownsRow_base {w : World} {b b' : Nat} {e : TypeId} {size : Nat} {v : Value} {n : Nat} {xs : List Value} (h : w.ownsRow b e size v n xs) (hb : b' ≤ b) : w.ownsRow b' e size v n xs := by
  refine ⟨h.1, ?_⟩
  rcases h.2 with h | ⟨g, cap, cur, h1, h2, h3⟩
  · exact .inl h
  · exact .inr ⟨g, cap, cur, h1, Nat.le_trans hb h2, h3⟩

theorem run_append_mine {P : Program} (w : World) (base : Nat) (t ty e : TypeId) (i : TypeInfo) (z : Value) (size bytes : Nat) (ht : P.underlying t = some (.slice e)) (hi : P.info? e = some i) (hz : i.zero = some z)
    (hsize : i.size = size) (hby : i.bytes = bytes) (hzs : z.cells.size = size) (hsz : 0 < size)
    (v : Value) (n : Nat) (xs : List Value) (hown : w.ownsRow base e size v n xs)
    (a : Addr) (m c : Nat) (news : List Value) (hl : news.length = m * size) (hnews : ∀ j u, news[j]? = some u → w.cell? (a.add j) = some u) (h1 : ∀ u ∈ news, u.oneCell' = true)
    (h63 : n + m ≤ maxLen) (hbytes : (n + m) * bytes ≤ 140737488355328) (hbase : base ≤ w.heap.size) :
    ∃ v' w', (Builtin.append_ #[t, t] ty #[v, .slice (some a) m c]).run P w = .ok v' w' ∧ w'.ownsRow base e size v' (n + m) (xs ++ news) ∧ w.grownBy w' v.ownBlock ∧ Moved w v v' := by
  rcases hown.2 with ⟨rfl, rfl⟩ | ⟨g, cap, cur, rfl, hbg, hg, hnc, hcm, hcs, htake⟩
  · have hx : xs = [] := List.eq_nil_of_length_eq_zero (by simpa using hown.1)
    subst hx
    obtain ⟨v', w', hr, ho, hgr, _⟩ := run_append_own (P := P) w w.heap.size t ty e i z size bytes ht hi hz hsize hby hzs hsz (.slice none 0 0) 0 [] (World.ownsRow_nil _ _ _ _) a m c news hl hnews h1 h63 hbytes (Nat.le_refl _)
    exact ⟨v', w', hr, ownsRow_base ho hbase, hgr, .inr fun k hk => (ho.lt k hk).1⟩
  · obtain ⟨v', w', hr, ho, hgr, _⟩ := run_append_own (P := P) w base t ty e i z size bytes ht hi hz hsize hby hzs hsz _ n xs hown a m c news hl hnews h1 h63 hbytes hbase
    refine ⟨v', w', hr, ho, hgr, ?_⟩
    by_cases hroom : n + m ≤ cap
    · have hfit : n * i.size + news.length ≤ cur.size := by rw [hl, hcs, hsize, ← Nat.add_mul]; exact Nat.mul_le_mul_right _ hroom
      have hr2 := run_append_room (P := P) w t ty e i ht hi g n cap cur hg a m c news (by rw [hl, hsize]) hnews h1 hroom hfit
      rw [hr] at hr2
      injection hr2 with e1 e2
      exact .inl (by rw [e1]; rfl)
    · have holds : ∀ j u, xs[j]? = some u → w.cell? ((⟨g, 0, none⟩ : Addr).add j) = some u := hown.cells (g := g) rfl
      obtain ⟨v2, w2, hr2, ho2, _⟩ := run_append_arg_grows (P := P) w t ty e i z size bytes ht hi hz hsize hby hzs hsz ⟨g, 0, none⟩ n cap xs hown.1 holds a m c news hl hnews (by omega) h63 hbytes
      rw [hr] at hr2
      injection hr2 with e1 e2
      exact .inr fun k hk => (ho2.lt k (e1 ▸ hk)).1

theorem step_append_mine {P : Program} {ops : Array Oper} {o : Oper} {a : Act} {w : World} {K : Act → World → Prop} {Q : Exit → Act → World → Prop} {E : Prop}
    (hg : o.guard = none) (s x : Operand) (t : TypeId) (hop : o.op = Op.call { callee := Callee.builtin Builtin.append, args := #[s, x], argTypes := #[t, t] })
    (base : Nat) (e : TypeId) (i : TypeInfo) (z : Value) (size bytes : Nat) (h1 : P.underlying t = some (.slice e)) (h2 : P.info? e = some i) (h3 : i.zero = some z) (h4 : i.size = size) (h5 : i.bytes = bytes) (h6 : z.cells.size = size) (h7 : 0 < size)
    (v : Value) (n : Nat) (xs : List Value) (hs : a.eval s = v) (hown : w.ownsRow base e size v n xs)
    (ad : Addr) (m c : Nat) (news : List Value) (hx : a.eval x = .slice (some ad) m c) (hn : news.length = m * size) (hc : ∀ j u, news[j]? = some u → w.cell? (ad.add j) = some u) (h1c : ∀ u ∈ news, u.oneCell' = true)
    (b1 : n + m ≤ maxLen) (b2 : (n + m) * bytes ≤ 140737488355328) (hbase : base ≤ w.heap.size)
    (hK : ∀ v' w', w'.ownsRow base e size v' (n + m) (xs ++ news) → w.grownBy w' v.ownBlock → Moved w v v' → K (a.put o.dst v') w') :
    if Region.wanted o (yielded ops a.tmps) = true then Oper.wp P o a w K Q else E := by
  have hw : Region.wanted o (yielded ops a.tmps) = true := by simp [Region.wanted, hg]
  rw [if_pos hw]
  obtain ⟨v', w', hrun, r1, r2, r3⟩ := run_append_mine (P := P) w base t o.type e i z size bytes h1 h2 h3 h4 h5 h6 h7 v n xs hown ad m c news hn hc h1c b1 b2 hbase
  unfold Oper.wp
  simp [execOp, hop, resolve, invoke, builtin, hs, hx, hrun, Result.andThen]
  exact hK v' w' r1 r2 r3

theorem wpList_append_mine {P : Program} {w : World} {ops : Array Oper} {rest : List Oper} {o : Oper} {a : Act} {Q : Exit → Act → World → Prop} (hgd : o.guard = none) (s x : Operand) (t : TypeId)
    (ho : o.op = .call { callee := .builtin .append, args := #[s, x], argTypes := #[t, t] })
    (base : Nat) (e : TypeId) (i : TypeInfo) (z : Value) (size bytes : Nat) (ht : P.underlying t = some (.slice e)) (hi : P.info? e = some i) (hz : i.zero = some z)
    (hsize : i.size = size) (hby : i.bytes = bytes) (hzs : z.cells.size = size) (hsz : 0 < size)
    (v : Value) (n : Nat) (xs : List Value) (hs : a.eval s = v) (hown : w.ownsRow base e size v n xs)
    (ad : Addr) (m c : Nat) (news : List Value) (hx : a.eval x = .slice (some ad) m c) (hl : news.length = m * size) (hnews : ∀ j u, news[j]? = some u → w.cell? (ad.add j) = some u) (h1 : ∀ u ∈ news, u.oneCell' = true)
    (h63 : n + m ≤ maxLen) (hbytes : (n + m) * bytes ≤ 140737488355328) (hbase : base ≤ w.heap.size)
    (h : ∀ v' w', w'.ownsRow base e size v' (n + m) (xs ++ news) → w.grownBy w' v.ownBlock → Moved w v v' → wpList P ops Q rest (a.put o.dst v') w') : wpList P ops Q (o :: rest) a w :=
  wpList_plain hgd fun _ hK => by
    obtain ⟨v', w', hr, h2, h3, h4⟩ := run_append_mine (P := P) w base t o.type e i z size bytes ht hi hz hsize hby hzs hsz v n xs hown ad m c news hl hnews h1 h63 hbytes hbase
    unfold Oper.wp execOp
    simp only [ho, resolve, invoke, builtin, Sem.run_bind, Sem.run_pure, Result.andThen_ok, List.map_toArray, List.map_cons, List.map_nil, hs, hx, hr]
    exact hK _ _ (h v' w' h2 h3 h4)
end Go.Proofs.YtlbdkcnbgdmpaaaGreatDoor

/- BusTold -/
/- A bus as it lies; the walk of told. -/
namespace Go.Proofs.YtlbdkcnbgdmpaaaGreatDoor
open Go.RowKit Go.Deep
set_option linter.unusedVariables false

theorem Tryz.info_acc : (Tryz.prog.info? 93).map (fun i => (i.zero, i.size, i.bytes)) = some (some (.agg #[.int .i64 0, .bool false, .int .u32 0, .int .u32 0]), 4, 24) := by kernel_rfl

/-- the cells of an access -/
def accC (c : Int) (s : Bool) (a v : Int) : List Value := [.int .i64 c, .bool s, .int .u32 a, .int .u32 v]

/-- a bus as it lies: its box, its rows -/
structure BusAt (w : World) (b r : Nat) (ov : Value) (on : Nat) (ob : List Value) (lamp : Int) (tv : Value) (tn : Nat) (tb : List Value) : Prop where
  box : w.heap[b]? = some (.cells #[.pointer (some ⟨r, 0, none⟩), ov, .int .u32 lamp, tv] 52 (0, 0))
  out : w.ownsRow 0 5 1 ov on ob
  tr : w.ownsRow 0 93 4 tv tn tb
  rng : 0 ≤ lamp ∧ lamp < 4294967296
  ob : ov.ownBlock ≠ some b
  tb : tv.ownBlock ≠ some b
  ot : ov.ownBlock = none ∨ ov.ownBlock ≠ tv.ownBlock

theorem BusAt.keep {w w' : World} {b r : Nat} {ov : Value} {on : Nat} {ob : List Value} {lamp : Int} {tv : Value} {tn : Nat} {tb : List Value} {S : Nat → Prop} (B : BusAt w b r ov on ob lamp tv tn tb) (k : Keeps S w w') (h1 : ¬ S b) (h2 : ∀ g, ov.ownBlock = some g → ¬ S g) (h3 : ∀ g, tv.ownBlock = some g → ¬ S g) : BusAt w' b r ov on ob lamp tv tn tb where
  box := (k.block b (Array.getElem?_eq_some_iff.1 B.box).1 h1).trans B.box
  out := owns_keep B.out k h2
  tr := owns_keep B.tr k h3
  rng := B.rng
  ob := B.ob
  tb := B.tb
  ot := B.ot

theorem Moved.of_le {w w2 : World} {v v' : Value} (h : Moved w2 v v') (hs : w.heap.size ≤ w2.heap.size) : Moved w v v' := by
  rcases h with h | h
  · exact .inl h
  · exact .inr fun k hk => Nat.le_trans hs (h k hk)
theorem owns_lt {w : World} {base : Nat} {e : TypeId} {size : Nat} {v : Value} {n : Nat} {xs : List Value} (h : w.ownsRow base e size v n xs) {k : Nat} (hk : v.ownBlock = some k) : k < w.heap.size := (h.lt k hk).2
theorem Moved.ne {w : World} {v v' : Value} {b : Nat} (h : Moved w v v') (hb : b < w.heap.size) (hn : v.ownBlock ≠ some b) : v'.ownBlock ≠ some b := by
  rcases h with h | h
  · rw [h]; exact hn
  · intro e; have := h b e; omega
theorem told_end {w w1 : World} {b r : Nat} {ov : Value} {on : Nat} {ob : List Value} {lamp : Int} {tv tv' : Value} {tn : Nat} {tb xs : List Value} (B : BusAt w b r ov on ob lamp tv tn tb)
    (hk : Keeps (fun k => tv.ownBlock = some k) w w1) (hown : w1.ownsRow 0 93 4 tv' (tn + 1) xs) (hmv : Moved w tv tv') :
    BusAt (w1.setCell ⟨b, 3, none⟩ tv') b r ov on ob lamp tv' (tn + 1) xs ∧ Moved w tv tv' ∧ Keeps (fun k => k = b ∨ tv.ownBlock = some k) w (w1.setCell ⟨b, 3, none⟩ tv') := by
  have hbl : b < w.heap.size := (Array.getElem?_eq_some_iff.1 B.box).1
  have hb1 := (hk.block b hbl B.tb).trans B.box
  have hst := Keeps.one w1 b 3 tv'
  have htb := hmv.ne hbl B.tb
  have hkk : Keeps (fun k => k = b ∨ tv.ownBlock = some k) w (w1.setCell ⟨b, 3, none⟩ tv') := Keeps.trans (hk.mono (fun k _ h => Or.inr h)) hst (fun k _ h => Or.inl h)
  have hot : ∀ g, ov.ownBlock = some g → ¬ (g = b ∨ tv.ownBlock = some g) := by
    intro g hg h
    rcases h with rfl | h
    · exact B.ob hg
    · rcases B.ot with h0 | h0
      · rw [h0] at hg; cases hg
      · exact h0 (hg.trans h.symm)
  refine ⟨⟨set_block hb1 3 tv', owns_keep B.out hkk hot, owns_keep hown hst (fun g hg e => htb (e ▸ hg)), B.rng, B.ob, htb, ?_⟩, hmv, hkk⟩
  cases hov : ov.ownBlock with
  | none => exact .inl rfl
  | some g =>
    refine .inr fun e => ?_
    rcases hmv with h | h
    · exact hot g hov (.inr (h ▸ e.symm))
    · have := owns_lt B.out hov
      have := h g e.symm
      omega

set_option maxHeartbeats 1000000 in
theorem told_any (b r : Nat) (ov : Value) (on : Nat) (ob : List Value) (lamp : Int) (tv : Value) (tn : Nat) (tb : List Value) (c : Int) (s : Bool) (a v : Int) (w : World) (B : BusAt w b r ov on ob lamp tv tn tb) (hn : tn < 1000000) :
    Calls Tryz.prog 91 #[.pointer (some ⟨b, 0, none⟩), .agg #[.int .i64 c, .bool s, .int .u32 a, .int .u32 v]] w fun e w' => e = .returned (.tuple #[]) ∧
      ∃ tv', BusAt w' b r ov on ob lamp tv' (tn + 1) (tb ++ accC c s a v) ∧ Moved w tv tv' ∧ Keeps (fun k => k = b ∨ tv.ownBlock = some k) w w' := by
  obtain ⟨i0, hi, hz0, hz1, hz2⟩ := info_parts Tryz.info_acc
  have hc3 : w.cell? ⟨b, 3, none⟩ = some tv := by simp [World.cell?, B.box]
  have hcl := cell_alloc hc3 (.cells #[.int .i64 c, .bool s, .int .u32 a, .int .u32 v] 93)
  go_enter Tryz.func91, Tryz.ntmps91
  go_wp2_with fail
  have B1 := B.keep ((Keeps.refl (fun _ => False) w).alloc (.cells #[.int .i64 c, .bool s, .int .u32 a, .int .u32 v] 93)) (fun h => h) (fun _ _ h => h) (fun _ _ h => h)
  have hbx := blk_alloc_new w (.cells #[.int .i64 c, .bool s, .int .u32 a, .int .u32 v] 93)
  have hk1 := (Keeps.refl (fun _ => False) w).alloc (.cells #[.int .i64 c, .bool s, .int .u32 a, .int .u32 v] 93)
  have hbl : b < w.heap.size := (Array.getElem?_eq_some_iff.1 B.box).1
  generalize hwa : w.alloc (.cells #[.int .i64 c, .bool s, .int .u32 a, .int .u32 v] 93) = wa at *
  generalize w.heap.size = x at *
  have c0 : wa.cell? ⟨x, 0, none⟩ = some (.int .i64 c) := by simp [World.cell?, hbx]
  have c1 : wa.cell? ⟨x, 1, none⟩ = some (.bool s) := by simp [World.cell?, hbx]
  have c2 : wa.cell? ⟨x, 2, none⟩ = some (.int .u32 a) := by simp [World.cell?, hbx]
  have c3 : wa.cell? ⟨x, 3, none⟩ = some (.int .u32 v) := by simp [World.cell?, hbx]
  have hcn : ∀ j u, (accC c s a v)[j]? = some u → (wa.drew.alloc (.cells (accC c s a v).toArray 93)).cell? ((⟨wa.heap.size, 0, none⟩ : Addr).add j) = some u := fun j u h => cells_new wa.drew _ _ j u h
  have hcl2 := cell_alloc hcl (.cells #[.int .i64 c, .bool s, .int .u32 a, .int .u32 v] 93)
  have hmx : tn + 1 ≤ maxLen := by unfold maxLen; omega
  go_region_law (refine step_append_mine rfl (.tmp 8) (.tmp 10) 37 rfl 0 93 i0 _ 4 24 Tryz.underlying37 hi hz0 hz1 hz2 rfl (by decide) tv tn tb (by simp [Act.eval]) (B1.tr.alloc _) ⟨wa.heap.size, 0, none⟩ 1 1 (accC c s a v) (by simp [Act.eval]) rfl hcn (by simp [accC, Value.oneCell']) hmx (by omega) (Nat.zero_le _) ?_; intro tv' w1 hown hgr hmv; obtain ⟨A', cap', rfl⟩ := owns_slice hown; have hk2 : Keeps (fun k => tv.ownBlock = some k) wa w1 := (((Keeps.refl _ wa).alloc _).drew).grown hgr (fun k hk _ => hk); have hb2 := (hk2.block b (Array.getElem?_eq_some_iff.1 B1.box).1 (fun h => B1.tb h)).trans B1.box; have hc2 : w1.cell? ⟨b, 3, none⟩ = some tv := (by simp [World.cell?, hb2]); have hf2 := frozen_of_block hb2 3)
  all_goals (
    go_wp2
    refine bodyPost_end (results_none rfl _ _ _) rfl ?_
    exact ⟨rfl, _, told_end B (Keeps.trans (hk1.mono (fun _ _ h => h.elim)) hk2 (fun _ _ h => h)) hown (hmv.of_le (Keeps.size ((hk1.alloc _).drew)))⟩)
end Go.Proofs.YtlbdkcnbgdmpaaaGreatDoor

/- RefNew -/
/- The walks of the reference's NewRam and NewBus. -/
namespace Go.Proofs.YtlbdkcnbgdmpaaaGreatDoor
open Go.RowKit Go.Deep
set_option linter.unusedVariables false

/-- words as they are laid -/
def wdOf (n : Nat) (ws : Nat → Int) (i : Nat) : Int := if i < n then ws i else 0
theorem be_ramOf (n : Nat) (ws : Nat → Int) (i : Nat) (hr : ∀ i, i < n → 0 ≤ ws i ∧ ws i < 4294967296) : be (ramOf n ws) (4 * i) 4 = wdOf n ws i := by
  rw [be4]
  unfold ramOf wdOf Wb
  by_cases h : i < n
  · have := hr i h
    rw [if_pos (by omega), if_pos (by omega), if_pos (by omega), if_pos (by omega), if_pos h]
    have e0 : 4 * i / 4 = i := by omega
    have e1 : (4 * i + 1) / 4 = i := by omega
    have e2 : (4 * i + 2) / 4 = i := by omega
    have e3 : (4 * i + 3) / 4 = i := by omega
    have f0 : 4 * i % 4 = 0 := by omega
    have f1 : (4 * i + 1) % 4 = 1 := by omega
    have f2 : (4 * i + 2) % 4 = 2 := by omega
    have f3 : (4 * i + 3) % 4 = 3 := by omega
    rw [e0, e1, e2, e3, f0, f1, f2, f3]
    show 16777216 * (ws i / 16777216 % 256) + 65536 * (ws i / 65536 % 256) + 256 * (ws i / 256 % 256) + ws i / 1 % 256 = ws i
    omega
  · rw [if_neg (by omega), if_neg (by omega), if_neg (by omega), if_neg (by omega), if_neg h]
    omega

/-- where NewRam stands when i words are laid -/
structure RefNewRel (w wr : World) (q wb tb hb : Nat) (ws : Nat → Int) (i : Nat) : Prop where
  keeps : Keeps (fun _ => False) w wr
  low : w.heap.size ≤ q ∧ w.heap.size ≤ wb ∧ w.heap.size ≤ tb ∧ w.heap.size ≤ hb
  ram : RefW wr q wb tb hb (wdOf i ws) (fun _ => false) (fun _ => false)
theorem RefNewRel.step {w wr : World} {q wb tb hb : Nat} {ws : Nat → Int} {i : Nat} (h : RefNewRel w wr q wb tb hb ws i) (hi : i < 4096) : RefNewRel w ((wr.setCell ⟨wb, i, none⟩ (.int .u32 (ws i))).drew) q wb tb hb ws (i + 1) := by
  have k : Keeps (· = wb) wr ((wr.setCell ⟨wb, i, none⟩ (.int .u32 (ws i))).drew) := ((Keeps.refl (· = wb) wr).setCell (a := ⟨wb, i, none⟩) (fun _ => rfl) _).drew
  obtain ⟨a1, a2, a3, a4, a5, a6⟩ := h.ram.apart
  have hl := h.low
  refine ⟨h.keeps.trans k (fun b hb e => by omega), h.low, ⟨(k.block q (Array.getElem?_eq_some_iff.1 h.ram.box).1 a1).trans h.ram.box, ?_, k.rowTo h.ram.watch (Ne.symm a4), k.rowTo h.ram.hit (Ne.symm a5), h.ram.apart⟩⟩
  refine (RowTo.drew (h.ram.words.set i _)).congr fun j hj => ?_
  unfold wdOf
  by_cases e : j = i
  · rw [if_pos e, if_pos (by omega), e]
  · rw [if_neg e]
    by_cases h1 : j < i
    · rw [if_pos h1, if_pos (by omega)]
    · rw [if_neg h1, if_neg (by omega)]
theorem RefNewRel.done {w wr : World} {q wb tb hb : Nat} {ws : Nat → Int} {i : Nat} (h : RefNewRel w wr q wb tb hb ws i) (hr : ∀ j, j < i → 0 ≤ ws j ∧ ws j < 4294967296) :
    RefAt wr q wb tb hb (ramOf i ws) (fun _ => false) (fun _ => false) :=
  ⟨h.ram.congr fun j _ => (be_ramOf i ws j hr).symm, fun j _ => by
    unfold ramOf Wb
    split <;> omega⟩
theorem rowTo_made (w : World) (z : Value) (n : Nat) (t : TypeId) : RowTo (w.alloc (.cells (madeCells #[z] n) t)) w.heap.size t n (fun _ => z) := RowTo.of_row (World.rowIs_made w z n t)

/-- what NewRam leaves -/
def RefMade (w : World) (ws : Nat → Int) (n : Nat) (e : Ending) (w' : World) : Prop :=
  ∃ q wb tb hb, e = .returned (.pointer (some ⟨q, 0, none⟩)) ∧ RefAt w' q wb tb hb (ramOf n ws) (fun _ => false) (fun _ => false) ∧ (w.heap.size ≤ q ∧ w.heap.size ≤ wb ∧ w.heap.size ≤ tb ∧ w.heap.size ≤ hb) ∧ Keeps (fun _ => False) w w'

/-- when the rows of bools and the box are made -/
structure RefPre (w W : World) (q tb hb : Nat) : Prop where
  keeps : Keeps (fun _ => False) w W
  low : w.heap.size ≤ q ∧ w.heap.size ≤ tb ∧ w.heap.size ≤ hb
  box : W.heap[q]? = some (.cells #[.slice none 0 0, .slice (some ⟨tb, 0, none⟩) 64 64, .slice (some ⟨hb, 0, none⟩) 64 64] 63 (0, 0))
  watch : RowTo W tb 4 64 (fun _ => .bool false)
  hit : RowTo W hb 4 64 (fun _ => .bool false)
  apart : q ≠ tb ∧ q ≠ hb ∧ tb ≠ hb
theorem refPre_of (w W : World) (tb hb q : Nat) (h : (tb = w.heap.size ∧ hb = w.heap.size + 1 ∨ tb = w.heap.size + 1 ∧ hb = w.heap.size) ∧ q = w.heap.size + 1 + 1)
    (e : W = (((w.alloc (.cells (falseRow 64) 4)).alloc (.cells (falseRow 64) 4)).alloc (.cells #[.slice none 0 0, .slice (some ⟨tb, 0, none⟩) 64 64, .slice (some ⟨hb, 0, none⟩) 64 64] 63)).drew) : RefPre w W q tb hb := by
  have r1 := rowTo_made w (.bool false) 64 4
  have r2 := rowTo_made (w.alloc (.cells (falseRow 64) 4)) (.bool false) 64 4
  have r1' := r1.alloc (.cells (falseRow 64) 4)
  have k := (((Keeps.refl (fun _ => False) w).alloc (.cells (falseRow 64) 4)).alloc (.cells (falseRow 64) 4)).alloc (.cells #[.slice none 0 0, .slice (some ⟨tb, 0, none⟩) 64 64, .slice (some ⟨hb, 0, none⟩) 64 64] 63)
  have hbx := blk_alloc_new ((w.alloc (.cells (falseRow 64) 4)).alloc (.cells (falseRow 64) 4)) (.cells #[.slice none 0 0, .slice (some ⟨tb, 0, none⟩) 64 64, .slice (some ⟨hb, 0, none⟩) 64 64] 63)
  rw [nblk_alloc] at r2
  rw [nblk_alloc, nblk_alloc] at hbx
  obtain ⟨h, rfl⟩ := h
  subst e
  rcases h with ⟨rfl, rfl⟩ | ⟨rfl, rfl⟩
  · exact ⟨k.drew, by omega, hbx, (r1'.alloc _).drew, (r2.alloc _).drew, by omega⟩
  · exact ⟨k.drew, by omega, hbx, (r2.alloc _).drew, (r1'.alloc _).drew, by omega⟩
theorem RefPre.start {w W : World} {q tb hb : Nat} (h : RefPre w W q tb hb) (ws : Nat → Int) :
    RefNewRel w ((W.alloc (.cells (zeroRow32 4096) 22)).setCell ⟨q, 0, none⟩ (.slice (some ⟨W.heap.size, 0, none⟩) 4096 4096)) q W.heap.size tb hb ws 0 := by
  have l1 := h.watch.lt
  have l2 := h.hit.lt
  have l3 : q < W.heap.size := (Array.getElem?_eq_some_iff.1 h.box).1
  have hs := h.keeps.size
  have hl := h.low
  have ha := h.apart
  have k1 := h.keeps.alloc (.cells (zeroRow32 4096) 22)
  have hbx := (blk_alloc_lt W (.cells (zeroRow32 4096) 22) q l3).trans h.box
  have ks := Keeps.one (W.alloc (.cells (zeroRow32 4096) 22)) q 0 (.slice (some ⟨W.heap.size, 0, none⟩) 4096 4096)
  refine ⟨k1.trans ks (fun b hb e => by omega), by omega, ⟨set_block hbx 0 _, ?_, ks.rowTo (h.watch.alloc _) (by omega), ks.rowTo (h.hit.alloc _) (by omega), by omega⟩⟩
  exact (ks.rowTo (rowTo_made W (.int .u32 0) 4096 22) (by omega)).congr fun i _ => by simp [wdOf]

set_option maxRecDepth 100000 in
set_option maxHeartbeats 2000000 in
theorem refNew_any (len cap : Nat) (A : Option Addr) (w : World) (ws : Nat → Int) (hR : Reads w A len cap (fun i => .int .u32 (ws i))) (hc : cap ≤ 9223372036854775807) (hr : ∀ i, i < len → 0 ≤ ws i ∧ ws i < 4294967296) :
    Calls Tryz.prog 16 #[.slice A len cap] w (RefMade w ws (min len 4096)) := by
  have hmk := make_bools
  have hmw := make_words
  have hlc := hR.1
  have HR := Lib.hid hR
  have HX := Lib.hid hr
  clear hR hr
  go_enter Tryz.func16, Tryz.ntmps16
  go_wp2_with fail
  go_region_held3 (fun _ => True) (trivial) (fail)
  have hP := refPre_of w _ w.heap.size (w.heap.size + 1) (w.heap.size + 1 + 1) ⟨by omega, rfl⟩ rfl
  generalize World.drew _ = W at *
  generalize w.heap.size + 1 + 1 = q at *
  generalize w.heap.size + 1 = hb at *
  generalize w.heap.size = tb at *
  rotate_left
  have hP := refPre_of w _ (w.heap.size + 1) w.heap.size (w.heap.size + 1 + 1) ⟨by omega, rfl⟩ rfl
  generalize World.drew _ = W at *
  generalize w.heap.size + 1 + 1 = q at *
  generalize w.heap.size + 1 = tb at *
  generalize w.heap.size = hb at *
  all_goals
    have hS := hP.start ws
    have hbx := (blk_alloc_lt W (.cells (zeroRow32 4096) 22) q (Array.getElem?_eq_some_iff.1 hP.box).1).trans hP.box
    have c0 : (W.alloc (.cells (zeroRow32 4096) 22)).cell? ⟨q, 0, none⟩ = some (.slice none 0 0) := by simp [World.cell?, hbx]
    have f0 := frozen_of_block hbx 0
    have HS := Lib.hid hS
    clear hS hP hbx
    go_wp2_with fail
    generalize hW2 : (W.alloc (.cells (zeroRow32 4096) 22)).setCell ⟨q, 0, none⟩ (.slice (some ⟨W.heap.size, 0, none⟩) 4096 4096) = W2 at *
    clear hW2 c0 f0
    generalize W.heap.size = wb at *
    go_loopw [4] (fun s4 wr => ∃ i : Nat, i ≤ min len 4096 ∧ s4 = .int .i64 i ∧ RefNewRel w wr q wb tb hb ws i) (fun s4 _ => min len 4096 - (intOf s4).toNat)
    case atStart => exact ⟨0, Nat.zero_le _, rfl, HS.out⟩
    case round =>
      obtain ⟨i, hi, rfl, hN⟩ := hrel
      have cq : wr.cell? ⟨q, 0, none⟩ = some (.slice (some ⟨wb, 0, none⟩) 4096 4096) := by simp [World.cell?, hN.ram.box]
      by_cases h1 : i < len
      · by_cases h2 : i < 4096
        · obtain ⟨ab, ao, rfl, hcell⟩ : ∃ ab ao, A = some ⟨ab, ao, none⟩ ∧ wr.cell? ⟨ab, ao + i, none⟩ = some (.int .u32 (ws i)) := by
            obtain ⟨g1, g2 | ⟨ab, ao, g2, g3, g4⟩⟩ := HR.out.keep hN.keeps (fun _ _ _ h => h)
            · omega
            · exact ⟨ab, ao, g2, g4 i h1⟩
          have hr := HX.out i h1
          have cw := hN.ram.words.cell (i := i) h2
          have cf := hN.ram.words.frozen i
          have HN := Lib.hid (hN.step h2)
          have q0 : 0 ≤ (i : Int) := by omega
          have q1 : (i : Int) < 4096 := by omega
          have q2 : (i : Int) < len := by omega
          have q3 : ((i : Int)).toNat = i := by omega
          go_wp2_with fail
          go_still_tail 10, (by kernel_rfl)
          change wpList _ _ _ _ _ wr.drew
          go_wp2
          go_roundw
          case rel => exact ⟨i + 1, by omega, by go_num, HN.out⟩
          case measure => simp [intOf]; omega
        · have hi4 : i = 4096 := by omega
          have hm : min len 4096 = i := by omega
          have HM := Lib.hid hm
          have h3 : (i : Int) < len := by omega
          have h4 : ¬ (i : Int) < 4096 := by omega
          clear hm hi4
          have HN := Lib.hid hN
          go_wp2_with fail
          go_ret
          refine ⟨q, wb, tb, hb, rfl, ?_, HN.out.low, HN.out.keeps⟩
          rw [HM.out]
          exact HN.out.done (fun j hj => HX.out j (by omega))
      · have hm : min len 4096 = i := by omega
        have HM := Lib.hid hm
        clear hm
        have HN := Lib.hid hN
        go_wp2_with fail
        go_ret
        refine ⟨q, wb, tb, hb, rfl, ?_, HN.out.low, HN.out.keeps⟩
        rw [HM.out]
        exact HN.out.done (fun j hj => HX.out j (by omega))
end Go.Proofs.YtlbdkcnbgdmpaaaGreatDoor
