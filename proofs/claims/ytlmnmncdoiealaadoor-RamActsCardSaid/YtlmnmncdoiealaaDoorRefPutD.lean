
/- The walks of the reference's put, Load and Store. -/
import Derived.Test.YtlmnmncdoiealaaDoorRef
import Derived.StillTailTactics
namespace Go.Proofs.YtlmnmncdoiealaaDoor
open Go.RowKit Go.Deep
set_option linter.unusedVariables false

/-- a byte is laid -/
def rupd (m : Nat → Int) (a : Nat) (v : Int) (i : Nat) : Int := if i = a then v else m i

/-- the word that a byte is laid into -/
theorem put_word (m : Nat → Int) (a : Nat) (v : Int) (hv : 0 ≤ v ∧ v < 256) (h : ∀ i, i < 4 → 0 ≤ m (4 * (a / 4) + i) ∧ m (4 * (a / 4) + i) < 256) :
    (be m (4 * (a / 4)) 4 - Wd.shift 60 (m a) (24 - 8 * ((a : Int) % 4)) + Wd.shift 60 v (24 - 8 * ((a : Int) % 4))) % 4294967296 = be (rupd m a v) (4 * (a / 4)) 4 := by
  have h0 := h 0 (by omega)
  have h1 := h 1 (by omega)
  have h2 := h 2 (by omega)
  have h3 := h 3 (by omega)
  rw [be4, be4]
  rw [Nat.add_zero] at h0
  simp only [rupd]
  have hr : a % 4 = 0 ∨ a % 4 = 1 ∨ a % 4 = 2 ∨ a % 4 = 3 := by omega
  rcases hr with hr | hr | hr | hr
  · have e2 : m a = m (4 * (a / 4)) := congrArg m (by omega)
    rw [if_pos (by omega), if_neg (by omega), if_neg (by omega), if_neg (by omega), e2, Wd.shift_60 _ _ 16777216 (by rw [show (24 - 8 * ((a : Int) % 4)) % 32 = 24 by omega]; rfl), Wd.shift_60 _ _ 16777216 (by rw [show (24 - 8 * ((a : Int) % 4)) % 32 = 24 by omega]; rfl)]
    omega
  · have e2 : m a = m (4 * (a / 4) + 1) := congrArg m (by omega)
    rw [if_neg (by omega), if_pos (by omega), if_neg (by omega), if_neg (by omega), e2, Wd.shift_60 _ _ 65536 (by rw [show (24 - 8 * ((a : Int) % 4)) % 32 = 16 by omega]; rfl), Wd.shift_60 _ _ 65536 (by rw [show (24 - 8 * ((a : Int) % 4)) % 32 = 16 by omega]; rfl)]
    omega
  · have e2 : m a = m (4 * (a / 4) + 2) := congrArg m (by omega)
    rw [if_neg (by omega), if_neg (by omega), if_pos (by omega), if_neg (by omega), e2, Wd.shift_60 _ _ 256 (by rw [show (24 - 8 * ((a : Int) % 4)) % 32 = 8 by omega]; rfl), Wd.shift_60 _ _ 256 (by rw [show (24 - 8 * ((a : Int) % 4)) % 32 = 8 by omega]; rfl)]
    omega
  · have e2 : m a = m (4 * (a / 4) + 3) := congrArg m (by omega)
    rw [if_neg (by omega), if_neg (by omega), if_neg (by omega), if_pos (by omega), e2, Wd.shift_60 _ _ 1 (by rw [show (24 - 8 * ((a : Int) % 4)) % 32 = 0 by omega]; rfl), Wd.shift_60 _ _ 1 (by rw [show (24 - 8 * ((a : Int) % 4)) % 32 = 0 by omega]; rfl)]
    omega
theorem shl_rng (a n : Int) : 0 ≤ Wd.shift 60 a n ∧ Wd.shift 60 a n < 4294967296 := by
  rw [Wd.shift_60 a n _ rfl]
  omega
theorem RefAt.put {w w' : World} {q wb tb hb : Nat} {m : Nat → Int} {wt ht : Nat → Bool} {a : Nat} {v : Int} (R : RefAt w q wb tb hb m wt ht) (ha : a < 16384) (hv : 0 ≤ v ∧ v < 256) (he : w' = (w.setCell ⟨wb, a / 4, none⟩ (.int .u32 (be (rupd m a v) (4 * (a / 4)) 4))).drew) :
    RefAt w' q wb tb hb (rupd m a v) wt ht ∧ Keeps (· = wb) w w' := by
  subst he
  have k : Keeps (· = wb) w ((w.setCell ⟨wb, a / 4, none⟩ (.int .u32 (be (rupd m a v) (4 * (a / 4)) 4))).drew) := ((Keeps.refl (· = wb) w).setCell (a := ⟨wb, a / 4, none⟩) (fun _ => rfl) _).drew
  obtain ⟨a1, a2, a3, a4, a5, a6⟩ := R.raw.apart
  refine ⟨⟨⟨(k.block q (Array.getElem?_eq_some_iff.1 R.raw.box).1 a1).trans R.raw.box, ?_, k.rowTo R.raw.watch (Ne.symm a4), k.rowTo R.raw.hit (Ne.symm a5), R.raw.apart⟩, fun i hi => ?_⟩, k⟩
  · refine (RowTo.drew (R.raw.words.set (a / 4) _)).congr fun j hj => ?_
    by_cases e : j = a / 4
    · rw [if_pos e, e]
    · rw [if_neg e, be4, be4]
      simp only [rupd]
      rw [if_neg (by omega), if_neg (by omega), if_neg (by omega), if_neg (by omega)]
  · unfold rupd
    split
    · exact hv
    · exact R.rng i hi

set_option maxRecDepth 100000 in
set_option maxHeartbeats 2000000 in
theorem put_any (q wb tb hb : Nat) (m : Nat → Int) (wt ht : Nat → Bool) (a : Nat) (v : Int) (w : World) (R : RefAt w q wb tb hb m wt ht) (ha : a < 16384) (hv : 0 ≤ v ∧ v < 256) :
    Calls Tryd.prog 44 #[.pointer (some ⟨q, 0, none⟩), .int .i64 a, .int .u8 v] w fun e w' => e = .returned (.tuple #[]) ∧ RefAt w' q wb tb hb (rupd m a v) wt ht ∧ Keeps (· = wb) w w' := by
  have hb0 : w.cell? ⟨q, 0, none⟩ = some (.slice (some ⟨wb, 0, none⟩) 4096 4096) := by simp [World.cell?, R.raw.box]
  have hc := R.raw.words.cell (i := a / 4) (by omega)
  have hf := R.raw.words.frozen (a / 4)
  have hw := be_rng m (4 * (a / 4)) 4 (fun i hi => R.rng _ (by omega))
  have HB := Lib.hid (put_word m a v hv (fun i hi => R.rng _ (by omega)))
  have hm := R.rng a ha
  have hw2 : be m (4 * (a / 4)) 4 < 4294967296 := hw.2
  have hw1 := hw.1
  clear hw
  have s1 := shl_rng (m a) (24 - 8 * ((a : Int) % 4))
  have s2 := shl_rng v (24 - 8 * ((a : Int) % 4))
  generalize be m (4 * (a / 4)) 4 = x at *
  have q1 : ((a : Int) / 4).toNat = a / 4 := by omega
  have q2 : (a : Int).tdiv 4 = a / 4 := Int.tdiv_eq_ediv_of_nonneg (by omega)
  have q3 : IntKind.i64.wrap ((a : Int) / 4) = a / 4 := IntWalk.i64_in _ (by omega)
  have q4 : 0 ≤ (a : Int) / 4 := by omega
  have q5 : (a : Int) / 4 < 4096 := by omega
  have hgo := fun w' h => RefAt.put (w' := w') R ha hv h
  have HGO := Lib.hid hgo
  clear hgo
  go_enter Tryd.func44, Tryd.ntmps44
  go_wp2_with fail
  refine (refAt_any q wb tb hb m wt ht a _ R ha).mono ?_
  rintro e w' ⟨rfl, rfl⟩
  go_wp2_with fail
  refine (shiftOf_any 60 (m a) (24 - 8 * ((a : Int) % 4)) _ (by omega) (by omega)).mono ?_
  rintro e w' ⟨rfl, rfl⟩
  generalize Wd.shift 60 (m a) (24 - 8 * ((a : Int) % 4)) = y at *
  go_wp2_with fail
  refine (shiftOf_any 60 v (24 - 8 * ((a : Int) % 4)) _ (by omega) (by omega)).mono ?_
  rintro e w' ⟨rfl, rfl⟩
  generalize Wd.shift 60 v (24 - 8 * ((a : Int) % 4)) = z at *
  go_wp2_with fail
  go_still_tail 19, (by kernel_rfl)
  change wpList _ _ _ _ _ w.drew
  go_wp2
  refine bodyPost_end (results_none rfl _ _ _) rfl ?_
  refine ⟨rfl, HGO.out _ ?_⟩
  rw [← HB.out, show ((x - y) % 4294967296 + z) % 4294967296 = (x - y + z) % 4294967296 by omega]

/-- what a Load answers: the number of its error, its value -/
theorem upd_st (m : Nat → Int) (a n j : Nat) (v : Int) (k : Nat) : rupd (stTo m a n v j) (a + j) (sb v n j) k = stTo m a n v (j + 1) k := by
  unfold rupd stTo
  by_cases h : k = a + j
  · subst h
    rw [if_pos rfl, if_pos (by omega), show a + j - a = j by omega]
  · rw [if_neg h]
    by_cases h1 : a ≤ k ∧ k < a + j
    · rw [if_pos h1, if_pos (by omega)]
    · rw [if_neg h1, if_neg (by omega)]
theorem rsb_rng (v : Int) (n j : Nat) : 0 ≤ sb v n j ∧ sb v n j < 256 := by unfold sb; omega

set_option maxRecDepth 100000 in
set_option maxHeartbeats 1000000 in
theorem rload_ok (q wb tb hb : Nat) (m : Nat → Int) (wt ht : Nat → Bool) (a n : Nat) (s : Bool) (w : World) (R : RefAt w q wb tb hb m wt ht) (h : rightC a n = 0) :
    Calls Tryd.prog 15 #[.pointer (some ⟨q, 0, none⟩), .int .u32 a, .int .i64 n, .bool s] w fun e w' => e = .returned (.tuple #[.int .u32 (Wd.wide (be m a n) (8 * n) s), .int .i64 0]) ∧ w = w' := by
  obtain ⟨hn, hm, ha⟩ := rightC_ok h
  have ha' : a < 16384 := by omega
  have hn4 : n ≤ 4 := by omega
  have hn1 : 1 ≤ n := by omega
  have han : a + n ≤ 16384 := by
    have hn' : n = 1 ∨ n = 2 ∨ n = 4 := by omega
    rcases hn' with rfl | rfl | rfl <;> omega
  have HG := Lib.hid (fun i (hi : i < n) => R.rng (a + i) (by omega))
  have hwf : (Lit.int .i64 (n : Int)).wf = true := WalkArith.wf_i64 (by omega)
  clear hn hm ha
  go_enter Tryd.func15, Tryd.ntmps15
  go_wp2_with fail
  refine (reach_any a n _ (by omega) hwf).mono ?_
  rintro e w' ⟨rfl, rfl⟩
  rw [h]
  go_wp2_with fail
  go_loop [11, 12] (fun s11 s12 => ∃ i : Nat, i ≤ n ∧ s12 = .int .i64 i ∧ s11 = .int .i64 (be m a i)) (fun _ s12 => n - (intOf s12).toNat)
  case atStart => exact ⟨0, Nat.zero_le _, rfl, rfl⟩
  case round =>
    obtain ⟨i, hi, rfl, rfl⟩ := hrel
    have hr := be_rng m a i (fun k hk => HG.out k (by omega))
    by_cases hlt : i < n
    · obtain ⟨g1, g2⟩ := HG.out i hlt
      have hpw : (256 : Int) ^ i ≤ 16777216 := by
        have hi4 : i = 0 ∨ i = 1 ∨ i = 2 ∨ i = 3 := by omega
        rcases hi4 with rfl | rfl | rfl | rfl <;> decide
      have hr2 := hr.2
      go_wp2_with fail
      refine (refAt_any q wb tb hb m wt ht (a + i) _ R (by omega)).mono ?_
      rintro e w' ⟨rfl, rfl⟩
      go_wp2_with fail
      go_round
      case rel => exact ⟨i + 1, by omega, by go_num, rfl⟩
      case measure => simp [intOf]; omega
    · obtain rfl : i = n := by omega
      have hpw : (256 : Int) ^ i ≤ 4294967296 := by
        have hi4 : i = 1 ∨ i = 2 ∨ i = 3 ∨ i = 4 := by omega
        rcases hi4 with rfl | rfl | rfl | rfl <;> decide
      have hr2 := hr.2
      go_wp2_with fail
      refine (wideOf_any _ _ _ _ (by omega)).mono ?_
      rintro e w' ⟨rfl, rfl⟩
      go_wp2_with fail
      go_ret2
      exact ⟨rfl, rfl⟩

set_option maxRecDepth 100000 in
set_option maxHeartbeats 1000000 in
theorem rload_bad (q : Addr) (a n : Int) (s : Bool) (w : World) (ha : 0 ≤ a ∧ a < 4294967296) (hn : (Lit.int .i64 n).wf = true) (h : rightC a n ≠ 0) :
    Calls Tryd.prog 15 #[.pointer (some q), .int .u32 a, .int .i64 n, .bool s] w fun e w' => e = .returned (.tuple #[.int .u32 0, .int .i64 (rightC a n)]) ∧ w = w' := by
  have h1 : 0 < rightC a n := by omega
  have h2 : rightC a n < 11 := by unfold rightC; split <;> (try split) <;> (try split) <;> omega
  go_enter Tryd.func15, Tryd.ntmps15
  go_wp2_with fail
  refine (reach_any a n _ ha hn).mono ?_
  rintro e w' ⟨rfl, rfl⟩
  generalize hg : rightC a n = c at *
  have HG := Lib.hid hg
  clear hg
  go_wp2_with fail
  go_ret2
  exact ⟨by rw [HG.out]; rfl, rfl⟩

set_option maxRecDepth 100000 in
set_option maxHeartbeats 2000000 in
theorem rstore_ok (q wb tb hb : Nat) (m : Nat → Int) (wt ht : Nat → Bool) (a n : Nat) (v : Int) (w : World) (R : RefAt w q wb tb hb m wt ht) (hv : 0 ≤ v ∧ v < 4294967296) (h : rightC a n = 0) :
    Calls Tryd.prog 18 #[.pointer (some ⟨q, 0, none⟩), .int .u32 a, .int .i64 n, .int .u32 v] w fun e w' => e = .returned (.int .i64 0) ∧
      RefAt w' q wb tb hb (stTo m a n v n) wt (fun p => ht p || (decide (p = a / 256) && wt (a / 256))) ∧ Keeps (fun k => k = wb ∨ k = hb) w w' := by
  obtain ⟨hn, hm, ha⟩ := rightC_ok h
  have ha' : a < 16384 := by omega
  have hn4 : n ≤ 4 := by omega
  have hn1 : 1 ≤ n := by omega
  have han : a + n ≤ 16384 := by
    have hn' : n = 1 ∨ n = 2 ∨ n = 4 := by omega
    rcases hn' with rfl | rfl | rfl <;> omega
  have hwf : (Lit.int .i64 (n : Int)).wf = true := WalkArith.wf_i64 (by omega)
  clear hn hm ha
  go_enter Tryd.func18, Tryd.ntmps18
  go_wp2_with fail
  refine (reach_any a n _ (by omega) hwf).mono ?_
  rintro e w' ⟨rfl, rfl⟩
  rw [h]
  go_wp2_with fail
  go_loopw [10] (fun s10 wr => ∃ i : Nat, i ≤ n ∧ s10 = .int .i64 i ∧ RefAt wr q wb tb hb (stTo m a n v i) wt ht ∧ Keeps (· = wb) w wr) (fun s10 _ => n - (intOf s10).toNat)
  case atStart => exact ⟨0, Nat.zero_le _, rfl, R.congr (fun i _ => by rw [stTo, if_neg (by omega)]), Keeps.refl _ _⟩
  case round =>
    obtain ⟨i, hi, rfl, hR, hS⟩ := hrel
    by_cases hlt : i < n
    · have hsb : v / 2 ^ (8 * ((n : Int) - 1 - i)).toNat % 2 ^ (8 : Int).toNat = sb v n i := by
        rw [sb, show (8 * ((n : Int) - 1 - i)).toNat = 8 * (n - 1 - i) by omega]; rfl
      have HSB := Lib.hid hsb
      clear hsb
      have hs2 := rsb_rng v n i
      go_wp2_with fail
      refine (part_any v (8 * ((n : Int) - 1 - i)) 8 _ hv (by omega) (by omega)).mono ?_
      rintro e w' ⟨rfl, rfl⟩
      rw [HSB.out]
      generalize hg : sb v n i = x at *
      have HX := Lib.hid hg
      clear hg
      go_wp2_with fail
      refine (put_any q wb tb hb _ wt ht (a + i) x _ hR (by omega) hs2).mono ?_
      rintro e w' ⟨rfl, hR2, hK2⟩
      go_wp2_with fail
      go_roundw
      case rel => exact ⟨i + 1, by omega, by go_num, hR2.congr (fun k _ => by rw [← HX.out]; exact upd_st m a n i v k), hS.trans hK2 (fun _ _ h => h)⟩
      case measure => simp [intOf]; omega
    · obtain rfl : i = n := by omega
      have c1 : wr.cell? ⟨q, 1, none⟩ = some (.slice (some ⟨tb, 0, none⟩) 64 64) := by simp [World.cell?, hR.raw.box]
      have c2 : wr.cell? ⟨q, 2, none⟩ = some (.slice (some ⟨hb, 0, none⟩) 64 64) := by simp [World.cell?, hR.raw.box]
      have c3 := hR.raw.watch.cell (i := a / 256) (by omega)
      have c4 := hR.raw.hit.cell (i := a / 256) (by omega)
      have c5 := hR.raw.hit.frozen (a / 256)
      have q1 : ((a : Int) / 256).toNat = a / 256 := by omega
      have HK := Lib.hid (hS.mono (T := fun k => k = wb ∨ k = hb) (fun k _ h => Or.inl h))
      have hst : RefAt (wr.setCell ⟨hb, a / 256, none⟩ (.bool true)) q wb tb hb (stTo m a i v i) wt (fun p => if p = a / 256 then true else ht p) ∧ Keeps (fun k => k = wb ∨ k = hb) wr (wr.setCell ⟨hb, a / 256, none⟩ (.bool true)) := by
        have k := Keeps.setCell (S := (· = hb)) (Keeps.refl _ wr) (a := ⟨hb, a / 256, none⟩) (fun _ => rfl) (.bool true)
        obtain ⟨a1, a2, a3, a4, a5, a6⟩ := hR.raw.apart
        refine ⟨⟨⟨(k.block q (Array.getElem?_eq_some_iff.1 hR.raw.box).1 a3).trans hR.raw.box, k.rowTo hR.raw.words a5, k.rowTo hR.raw.watch a6, (hR.raw.hit.set (a / 256) _).congr (fun j _ => ?_), hR.raw.apart⟩, hR.rng⟩, k.mono (fun b _ h => Or.inr h)⟩
        split <;> rfl
      have HST := Lib.hid hst
      clear hst
      cases hwt : wt (a / 256)
      · rw [hwt] at c3
        have HT := Lib.hid hwt
        clear hwt
        go_wp2_with fail
        go_ret
        exact ⟨rfl, ⟨⟨hR.raw.box, hR.raw.words, hR.raw.watch, hR.raw.hit.congr (fun p _ => by simp [HT.out]), hR.raw.apart⟩, hR.rng⟩, HK.out⟩
      · rw [hwt] at c3
        have HT := Lib.hid hwt
        clear hwt
        go_wp2_with fail
        go_ret
        refine ⟨rfl, ⟨⟨HST.out.1.raw.box, HST.out.1.raw.words, HST.out.1.raw.watch, HST.out.1.raw.hit.congr (fun p _ => ?_), HST.out.1.raw.apart⟩, HST.out.1.rng⟩, HK.out.trans HST.out.2 (fun _ _ h => h)⟩
        by_cases hp : p = a / 256
        · simp [hp, HT.out]
        · simp [hp]
set_option maxRecDepth 100000 in
set_option maxHeartbeats 1000000 in
theorem rstore_bad (q : Addr) (a n v : Int) (w : World) (ha : 0 ≤ a ∧ a < 4294967296) (hn : (Lit.int .i64 n).wf = true) (h : rightC a n ≠ 0) :
    Calls Tryd.prog 18 #[.pointer (some q), .int .u32 a, .int .i64 n, .int .u32 v] w fun e w' => e = .returned (.int .i64 (rightC a n)) ∧ w = w' := by
  have h1 : 0 < rightC a n := by omega
  have h2 : rightC a n < 11 := by unfold rightC; split <;> (try split) <;> (try split) <;> omega
  go_enter Tryd.func18, Tryd.ntmps18
  go_wp2_with fail
  refine (reach_any a n _ ha hn).mono ?_
  rintro e w' ⟨rfl, rfl⟩
  generalize hg : rightC a n = c at *
  have HG := Lib.hid hg
  clear hg
  go_wp2_with fail
  go_ret
  exact ⟨by rw [HG.out]; rfl, rfl⟩
end Go.Proofs.YtlmnmncdoiealaaDoor
