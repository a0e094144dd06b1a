/- A map of pages as a set; the walks of Watch, Watched, Store, Hits over such maps. -/
import Derived.Test.YtlmnmncdoiealaaDoorHitsLaid
import Derived.Test.YtlmnmncdoiealaaDoorZRow
import Derived.Test.YtlmnmncdoiealaaDoorRamStore
import Derived.Test.YtlmnmncdoiealaaDoorRamWords
import Derived.Lib.SmallJoins
import Derived.Maps.OwnOps
import Derived.Maps.OwnSet
import Derived.RangeFuncSeq
namespace Go.Proofs.YtlmnmncdoiealaaDoor
open Go.RowKit Go.Deep Go.Maps Go.Sort Go.Shelf
set_option linter.unusedVariables false
set_option linter.unusedSimpArgs false

theorem mapKz : Maps.Keyed Tryd.prog 3 := Maps.int_keyed Tryd.underlying3
theorem wf_z {a : Int} (h : -9223372036854775808 ≤ a ∧ a < 9223372036854775808) : (Lit.int .i64 a).wf = true := WalkArith.wf_i64 (by omega)
/-- a map as a set -/
def BMap (w : World) (b n : Nat) (f : Int → Bool) : Prop := ∃ D : DataW Unit, w.ownsMap Tryd.prog 3 (plainElem Tryd.prog 4) b n D ∧ (∀ p : Int, has D (.int .i64 p) = f p) ∧ ∀ p : Int, f p = true → ∀ z, D.atKey (.int .i64 p) z = .lit (.bool true)
theorem BMap.keep {S : Nat → Prop} {w w' : World} {b n : Nat} {f : Int → Bool} (h : BMap w b n f) (k : Keeps S w w') (hs : ¬ S b) : BMap w' b n f := by
  obtain ⟨D, ⟨es, c, hb, h1⟩, h2⟩ := h
  exact ⟨D, ⟨es, c, k.map hb hs, h1⟩, h2⟩
theorem BMap.lt {w : World} {b n : Nat} {f : Int → Bool} (h : BMap w b n f) : b < w.heap.size := by
  obtain ⟨D, h1, _⟩ := h
  exact h1.lt
theorem BMap.more {w : World} {b n m : Nat} {f : Int → Bool} (h : BMap w b n f) (hm : n ≤ m) : BMap w b m f := by
  obtain ⟨D, ⟨es, c, hb, h1, h2, h3⟩, h4⟩ := h
  exact ⟨D, ⟨es, c, hb, h1, Nat.le_trans h2 hm, h3⟩, h4⟩
theorem BMap.empty {w : World} {b c : Nat} (hb : w.heap[b]? = some (.map #[] c)) : BMap w b 0 (fun _ => false) :=
  ⟨.map [], ⟨#[], c, hb, ⟨by simp, MapKept.stamped_empty c, by simp⟩, by simp, rfl⟩, fun p => rfl, fun p h => by cases h⟩
set_option maxRecDepth 100000 in
theorem BMap.look {w : World} {b n : Nat} {f : Int → Bool} (h : BMap w b n f) (p : Int) (hp : -9223372036854775808 ≤ p ∧ p < 9223372036854775808) : (Instr.lookup 84 (.map (some b)) (.int .i64 p) false).run Tryd.prog w = .ok (.bool (f p)) w := by
  obtain ⟨D, hown, h1, h2⟩ := h
  obtain ⟨v, ps, hrun, hv⟩ := hown.lookup mapKz Tryd.underlying84 (zero_bool w) (plainElem_bool Tryd.underlying4 false) (Maps.keyOf_int_mk Tryd.underlying3 (wf_z hp))
  have hD : D.atKey (.int .i64 p) (.lit (.bool false)) = .lit (.bool (f p)) := by
    cases hf : f p with
    | true => exact h2 p hf _
    | false => exact atKey_of_not_has (by rw [h1, hf]) _
  rw [hD] at hv
  unfold plainElem at hv
  rw [Tryd.underlying4] at hv
  split at hv
  · injection hv with hv
    injection hv with hv _
    injection hv with hv
    injection hv with hv
    rw [hrun, hv]
  · rename_i e2
    cases e2
  · rename_i e2
    cases e2
  · cases hv
theorem key_ne {p q : Int} (h : p ≠ q) : (Lit.int .i64 p) ≠ (Lit.int .i64 q) := fun e => h (by injection e)
theorem key_litz (p : Int) : WideAt.IsKeyLit (.int .i64 p) := by first | trivial | (unfold WideAt.IsKeyLit; trivial) | (simp [WideAt.IsKeyLit])
/-- a page marked -/
theorem BMap.put {w w' : World} {b n : Nat} {f : Int → Bool} {page : Int} {D : DataW Unit} (h1 : ∀ p : Int, has D (.int .i64 p) = f p) (h2 : ∀ p : Int, f p = true → ∀ z, D.atKey (.int .i64 p) z = .lit (.bool true)) (hm : Maps.IsMap D)
    (h : w'.ownsMap Tryd.prog 3 (plainElem Tryd.prog 4) b (n + 1) (D.put (.int .i64 page) (.lit (.bool true)))) : BMap w' b (n + 1) (fun p => decide (p = page) || f p) := by
  refine ⟨_, h, fun p => ?_, fun p hp z => ?_⟩
  · by_cases e : p = page
    · subst e
      rw [has_put_same hm (key_litz _)]
      simp
    · rw [has_put_other (key_ne e), h1 p]
      simp [e]
  · by_cases e : p = page
    · subst e
      rw [atKey_put_same hm (key_litz _)]
    · rw [atKey_put_other (key_ne e)]
      exact h2 p (by simpa [e] using hp) z
/-- a page no more marked -/
theorem BMap.del {w' : World} {b n : Nat} {f : Int → Bool} {page : Int} {D : DataW Unit} (h1 : ∀ p : Int, has D (.int .i64 p) = f p) (h2 : ∀ p : Int, f p = true → ∀ z, D.atKey (.int .i64 p) z = .lit (.bool true))
    (h : w'.ownsMap Tryd.prog 3 (plainElem Tryd.prog 4) b n (D.del (.int .i64 page))) : BMap w' b n (fun p => !decide (p = page) && f p) := by
  refine ⟨_, h, fun p => ?_, fun p hp z => ?_⟩
  · by_cases e : p = page
    · subst e
      rw [has_del_same]
      simp
    · rw [has_del_other (key_ne e), h1 p]
      simp [e]
  · have e : p ≠ page := fun e => by simp [e] at hp
    rw [atKey_del_other (key_ne e)]
    exact h2 p (by simpa [e] using hp) z
theorem keeps_turned {w w' : World} {b : Nat} (h : w.mapTurned w' b) : Keeps (· = b) w w' := (Keeps.refl (· = b) w).grown h.grown (fun k hk _ => by injection hk with hk; exact hk.symm)
set_option maxRecDepth 100000 in
theorem watchedB_any (r pb pw ph cp nw : Nat) (m : Nat → Int) (W : Int → Bool) (a : Int) (w : World) (R : RamAt w r pb pw ph cp m) (hW : BMap w pw nw W) (ha : 0 ≤ a ∧ a < 4294967296) :
    Calls Tryd.prog 23 #[.pointer (some ⟨r, 0, none⟩), .int .u32 a] w fun e w' => e = .returned (.bool (W (a / 256))) ∧ w = w' := by
  have hb : w.cell? ⟨r, 1, none⟩ = some (.map (some pw)) := by simp [World.cell?, R.box]
  have hl := hW.look (a / 256) (by omega)
  clear R hW
  generalize W (a / 256) = q at *
  go_enter Tryd.func23, Tryd.ntmps23
  go_wp2_with fail
  go_ret
  exact ⟨rfl, rfl⟩
set_option maxHeartbeats 1000000 in
set_option maxRecDepth 100000 in
/-- Watch of a page that is one -/
theorem watchB_any (r pb pw ph cp nw : Nat) (m : Nat → Int) (W : Int → Bool) (page : Int) (on : Bool) (w : World) (R : RamAt w r pb pw ph cp m) (hW : BMap w pw nw W) (hn : nw ≤ 1000000) (h : 0 ≤ page ∧ page < 64) :
    Calls Tryd.prog 19 #[.pointer (some ⟨r, 0, none⟩), .int .i64 page, .bool on] w fun e w' => e = .returned .nilIface ∧ BMap w' pw (nw + 1) (fun p => if p = page then on else W p) ∧ Keeps (· = pw) w w' := by
  have t1 : decide (page < 0) = false := decide_eq_false (by omega)
  have t2 : decide (64 ≤ page) = false := decide_eq_false (by omega)
  have hbx : w.cell? ⟨r, 1, none⟩ = some (.map (some pw)) := by simp [World.cell?, R.box]
  obtain ⟨D, hown, h1, h2⟩ := hW
  have hkey := Maps.keyOf_int_mk Tryd.underlying3 (wf_z (a := page) ⟨by omega, by omega⟩)
  have HOWN := Lib.hid hown
  have HML := Lib.hid (show nw < maxLen by unfold maxLen; omega)
  have H1 := Lib.hid h1
  have H2 := Lib.hid h2
  have HI := Lib.hid hown.isMap
  clear hown h1 h2 h R hn
  cases on
  · go_enter Tryd.func19, Tryd.ntmps19
    go_wp2_with (at_delete; refine wpList_delete_own _ rfl _ _ 84 3 rfl 4 mapKz Tryd.underlying84 _ pw nw _ rfl HOWN.out _ _ rfl hkey ?_; intro w4 hown4 hturn4)
    have HB := Lib.hid (show BMap w4 pw (nw + 1) (fun p => if p = page then false else W p) from by
      have h := (BMap.del H1.out H2.out hown4).more (Nat.le_succ _)
      have e : (fun p => if p = page then false else W p) = (fun p => !decide (p = page) && W p) := by
        funext p
        by_cases e : p = page <;> simp [e]
      rw [e]
      exact h)
    have HK := Lib.hid (keeps_turned hturn4)
    clear hown4 hturn4
    go_wp2_with fail
    go_ret
    exact ⟨rfl, HB.out, HK.out⟩
  · go_enter Tryd.func19, Tryd.ntmps19
    go_wp2_with (at_mapUpdate; refine wpList_mapUpdate_own _ rfl _ _ _ 84 rfl 3 4 mapKz Tryd.underlying84 _ pw nw _ rfl HOWN.out HML.out _ _ _ rfl rfl hkey _ [] (plainElem_bool Tryd.underlying4 true) ?_; intro w4 hown4 hgrow4)
    have HB := Lib.hid (show BMap w4 pw (nw + 1) (fun p => if p = page then true else W p) from by
      have h := BMap.put (w := w) H1.out H2.out HI.out hown4
      have e : (fun p => if p = page then true else W p) = (fun p => decide (p = page) || W p) := by
        funext p
        by_cases e : p = page <;> simp [e]
      rw [e]
      exact h)
    have HK := Lib.hid (show Keeps (· = pw) w w4 from (Keeps.refl (· = pw) w).grown hgrow4 (fun k hk _ => by injection hk with hk; exact hk.symm))
    clear hown4 hgrow4
    go_wp2_with fail
    go_ret
    exact ⟨rfl, HB.out, HK.out⟩
set_option maxRecDepth 100000 in
/-- Watch of what is no page -/
theorem watchB_bad (r : Addr) (page : Int) (on : Bool) (w : World) (ea : Nat → Addr) (hb : w.cell? ⟨0, 0, none⟩ = some (errV ea 2)) (h : ¬ (0 ≤ page ∧ page < 64)) :
    Calls Tryd.prog 19 #[.pointer (some r), .int .i64 page, .bool on] w fun e w' => e = .returned (errV ea 2) ∧ w = w' := by
  by_cases h1 : page < 0
  · have t1 : decide (page < 0) = true := decide_eq_true h1
    clear h
    go_enter Tryd.func19, Tryd.ntmps19
    go_wp2_with fail
    go_ret
    exact ⟨rfl, rfl⟩
  · have t1 : decide (page < 0) = false := decide_eq_false h1
    have t2 : decide (64 ≤ page) = true := decide_eq_true (by omega)
    clear h
    go_enter Tryd.func19, Tryd.ntmps19
    go_wp2_with fail
    go_ret
    exact ⟨rfl, rfl⟩
set_option maxRecDepth 100000 in
set_option maxHeartbeats 2000000 in
theorem storeB_any (r pb pw ph cp nw nh : Nat) (m : Nat → Int) (W H : Int → Bool) (a : Nat) (n : Nat) (v : Int) (w : World) (R : RamAt w r pb pw ph cp m) (hW : BMap w pw nw W) (hH : BMap w ph nh H) (hnh : nh ≤ 1000000) (hv : 0 ≤ v ∧ v < 4294967296) (h : rightC a n = 0) :
    Calls Tryd.prog 17 #[.pointer (some ⟨r, 0, none⟩), .int .u32 a, .int .i64 n, .int .u32 v] w fun e w' => e = .returned .nilIface ∧ RamAt w' r pb pw ph cp (stTo m a n v n) ∧ BMap w' pw nw W ∧ BMap w' ph (nh + 1) (fun p => decide (p = ((a / 256 : Nat) : Int)) && W ((a / 256 : Nat) : Int) || H p) ∧ Keeps (fun b => b = pb ∨ b = ph) w w' := by
  obtain ⟨hn, hm, ha⟩ := rightC_ok h
  have ha' : a < 16384 := by omega
  have hn4 : n ≤ 4 := by omega
  have hn1 : 1 ≤ n := by omega
  have han : a + n ≤ 16384 := by
    have hn' : n = 1 ∨ n = 2 ∨ n = 4 := by omega
    rcases hn' with rfl | rfl | rfl <;> omega
  have HW := Lib.hid hW
  have HH := Lib.hid hH
  have HNH := Lib.hid (show nh < maxLen by unfold maxLen; omega)
  obtain ⟨hcp1, hcp2⟩ := R.room
  clear hn hm ha hW hH hnh
  go_enter Tryd.func17, Tryd.ntmps17
  go_wp2_with fail
  refine (right_ok _ _ _ (by omega) h).mono ?_
  rintro e w' ⟨rfl, rfl⟩
  go_wp2_with fail
  go_loopw [19] (fun s19 wr => ∃ i : Nat, i ≤ n ∧ s19 = .int .i64 i ∧ RamAt wr r pb pw ph cp (stTo m a n v i) ∧ Keeps (· = pb) w wr) (fun s19 _ => n - (intOf s19).toNat)
  case atStart => exact ⟨0, Nat.zero_le _, rfl, R.st0, Keeps.refl _ _⟩
  case round =>
    obtain ⟨i, hi, rfl, hR, hS⟩ := hrel
    by_cases hlt : i < n
    · have hb : wr.cell? ⟨r, 0, none⟩ = some (.slice (some ⟨pb, 0, none⟩) 16384 cp) := by simp [World.cell?, hR.box]
      have hc := hR.bytes.cell (i := a + i) (by omega)
      have hf := hR.bytes.frozen (a + i)
      have q1 : IntKind.i64.wrap (a : Int) = a := IntWalk.i64_in _ (by omega)
      have q2 : IntKind.i64.wrap ((a : Int) + i) = a + i := IntWalk.i64_in _ (by omega)
      have q3 : IntKind.i64.wrap ((n : Int) - 1) = n - 1 := IntWalk.i64_in _ (by omega)
      have q4 : IntKind.i64.wrap ((n : Int) - 1 - i) = n - 1 - i := IntWalk.i64_in _ (by omega)
      have q5 : IntKind.i64.wrap (8 * ((n : Int) - 1 - i)) = 8 * (n - 1 - i) := IntWalk.i64_in _ (by omega)
      have q6 : 0 ≤ 8 * ((n : Int) - 1 - i) := by omega
      have q7 : 8 * ((n : Int) - 1 - i) ≤ 32 := by omega
      have q8 : ((a : Int) + i).toNat = a + i := by omega
      have q9 : (8 * ((n : Int) - 1 - i)).toNat = 8 * (n - 1 - i) := by omega
      have q10 : 0 ≤ (a : Int) + i := by omega
      have q11 : (a : Int) + i < 16384 := by omega
      go_wp2_with fail
      go_still_tail 17, (by kernel_rfl)
      change wpList _ _ _ _ _ wr.drew
      go_wp2
      go_roundw
      case rel => exact ⟨i + 1, by omega, by go_num, (hR.stored hlt hS).1, (hR.stored hlt hS).2⟩
      case measure => simp [intOf]; omega
    · obtain rfl : i = n := by omega
      have hb : wr.cell? ⟨r, 1, none⟩ = some (.map (some pw)) := by simp [World.cell?, hR.box]
      have hb2 : wr.cell? ⟨r, 2, none⟩ = some (.map (some ph)) := by simp [World.cell?, hR.box]
      obtain ⟨x1, x2, x3, x4, x5, x6⟩ := hR.apart
      have HW2 := Lib.hid (HW.out.keep hS (fun e => x4 e.symm))
      have HH2 := Lib.hid (HH.out.keep hS (fun e => x5 e.symm))
      have HR2 := Lib.hid hR
      have HS2 := Lib.hid (hS.mono (T := fun b => b = pb ∨ b = ph) (fun _ _ h => .inl h))
      have hl := HW2.out.look ((a : Int) / 256) (by omega)
      have HQ := Lib.hid (show W ((a : Int) / 256) = W ((a / 256 : Nat) : Int) from by
        congr 1)
      obtain ⟨q, hq⟩ : ∃ q, W ((a : Int) / 256) = q := ⟨_, rfl⟩
      rw [hq] at hl
      have HQE := Lib.hid (HQ.out.symm.trans hq)
      clear hq hR hS
      cases q
      · go_wp2
        go_ret
        refine ⟨rfl, HR2.out, HW2.out, ?_, HS2.out⟩
        rw [HQE.out]
        simp only [Bool.and_false, Bool.false_or]
        exact HH2.out.more (Nat.le_succ _)
      · obtain ⟨D, hown, h1, h2⟩ := HH2.out
        have hkey := Maps.keyOf_int_mk Tryd.underlying3 (wf_z (a := (a : Int) / 256) ⟨by omega, by omega⟩)
        have HOWN := Lib.hid hown
        have H1 := Lib.hid h1
        have H2 := Lib.hid h2
        have HI := Lib.hid hown.isMap
        clear hown h1 h2
        go_wp2_with (at_mapUpdate; refine wpList_mapUpdate_own _ rfl _ _ _ 84 rfl 3 4 mapKz Tryd.underlying84 _ ph nh _ rfl HOWN.out HNH.out _ _ _ rfl rfl hkey _ [] (plainElem_bool Tryd.underlying4 true) ?_; intro w4 hown4 hgrow4)
        have HB := Lib.hid (show BMap w4 ph (nh + 1) (fun p => decide (p = ((a / 256 : Nat) : Int)) && W ((a / 256 : Nat) : Int) || H p) from by
          rw [HQE.out]
          simp only [Bool.and_true]
          exact BMap.put (w := wr) H1.out H2.out HI.out hown4)
        have hk := (show Keeps (· = ph) wr w4 from (Keeps.refl (· = ph) wr).grown hgrow4 (fun k hk _ => by injection hk with hk; exact hk.symm))
        have HWF := Lib.hid (HW2.out.keep hk x6)
        have HRF := Lib.hid (HR2.out.keep hk x3 x5)
        have HKF := Lib.hid (HS2.out.trans (hk.mono (T := fun b => b = pb ∨ b = ph) (fun _ _ h => .inr h)) (fun _ _ h => h))
        clear hown4 hgrow4 hk
        go_wp2_with fail
        go_ret
        exact ⟨rfl, HRF.out, HWF.out, HB.out, HKF.out⟩
/-- the pages that are marked, rising -/
def hitL (f : Nat → Bool) : List Int := ((List.range 64).filter f).map fun (p : Nat) => (p : Int)
/-- a set of pages, over the numbers -/
def toI (f : Nat → Bool) : Int → Bool := fun p => decide (0 ≤ p ∧ p < 64) && f p.toNat
theorem mem_hitL (f : Nat → Bool) (x : Int) : x ∈ hitL f ↔ toI f x = true := by
  unfold hitL toI
  rw [List.mem_map]
  constructor
  · rintro ⟨p, hp, rfl⟩
    obtain ⟨h1, h2⟩ := List.mem_filter.1 hp
    have h3 := List.mem_range.1 h1
    rw [Bool.and_eq_true]
    exact ⟨decide_eq_true ⟨by omega, by omega⟩, by simpa using h2⟩
  · intro h
    rw [Bool.and_eq_true] at h
    have h1 := of_decide_eq_true h.1
    exact ⟨x.toNat, List.mem_filter.2 ⟨List.mem_range.2 (by omega), h.2⟩, by omega⟩
theorem hitL_sorted (f : Nat → Bool) : (hitL f).Pairwise (· < ·) := by
  unfold hitL
  refine List.pairwise_map.2 ?_
  have h := (List.pairwise_lt_range (n := 64)).filter f
  exact h.imp (fun h => by omega)
theorem sort_hitL {f : Nat → Bool} {ss : List Int} (h : ss.Perm (hitL f)) : ss.mergeSort leI = hitL f := by
  have tr : ∀ a b c : Int, leI a b = true → leI b c = true → leI a c = true := fun a b c h1 h2 => by simp only [leI, decide_eq_true_eq] at *; omega
  have to : ∀ a b : Int, (leI a b || leI b a) = true := fun a b => by simp only [leI, Bool.or_eq_true, decide_eq_true_eq]; omega
  refine List.Perm.eq_of_pairwise (le := fun a b => leI a b = true) (fun a b _ _ h1 h2 => ?_) (List.pairwise_mergeSort tr to ss) ((hitL_sorted f).imp (fun h => by simp only [leI, decide_eq_true_eq]; omega)) ((List.mergeSort_perm ss leI).trans h)
  simp only [leI, decide_eq_true_eq] at h1 h2
  omega
/-- the keys of a map that is a set of pages -/
theorem BMap.keys {w : World} {b n : Nat} {f : Nat → Bool} {D : DataW Unit} (h : w.ownsMap Tryd.prog 3 (plainElem Tryd.prog 4) b n D) (h1 : ∀ p : Int, has D (.int .i64 p) = toI f p) : (hitL f).Perm (intKeys D) :=
  CollectedI.perm (left := fun _ => false) ⟨(hitL_sorted f).imp (fun h => by omega), fun x => by rw [mem_hitL, h1 x]; simp⟩ h mapKz Tryd.underlying3 (fun _ => rfl)
theorem keeps_belowZ {w w' : World} (h : RowKit.Below w.heap.size w w') : Keeps (fun _ => False) w w' := ⟨h.os, h.tape, h.output, h.size, fun b hb _ => h.block b hb⟩
/-- the world behind clear(hits) -/
def clearZ (w : World) (ph c : Nat) : World := { w with heap := w.heap.setIfInBounds ph (.map #[] c) }
theorem run_clear_z (w : World) (ty : TypeId) (ph c : Nat) (es : Array MapEntry) (hm : w.heap[ph]? = some (.map es c)) :
    (Builtin.clear_ #[84] ty #[.map (some ph)]).run Tryd.prog w = .ok (.tuple #[]) (clearZ w ph c) := by
  simp [Builtin.clear_, run_underlying Tryd.underlying84, MapKept.run_getObj_map hm, MapKept.run_setObj_map _ hm, Result.andThen, clearZ]
theorem clearZ_keeps (w : World) (ph c : Nat) : Keeps (fun b => b = ph) w (clearZ w ph c) :=
  ⟨rfl, rfl, rfl, by simp [clearZ], fun k hk hs => by
    show (w.heap.setIfInBounds ph _)[k]? = _
    rw [Array.getElem?_setIfInBounds_ne (fun e => hs e.symm)]⟩
theorem clearZ_map (w : World) (ph c : Nat) (es : Array MapEntry) (hm : w.heap[ph]? = some (.map es c)) : BMap (clearZ w ph c) ph 0 (fun _ => false) := by
  refine BMap.empty (c := c) ?_
  have := (Array.getElem?_eq_some_iff.1 hm).1
  simp [clearZ, this]
/-- slices.Sort's two contracts at this seat, at the fence that asks nothing. -/
theorem sorts_atZ (m : Nat) : AnyZI.SortsIn Tryd.prog Tryd.sortedA_ren Fence.wide m :=
  ⟨fun blk off cap ss W hH hblk hsz => callsIn_wide.2 (AnyM.slices_Sort_int Tryd.sortA blk off cap ss W hH hblk hsz),
   fun p cap W => callsIn_wide.2 (AnyM.slices_Sort_int_none Tryd.sortA p cap W)⟩
set_option maxHeartbeats 2000000 in
set_option maxRecDepth 100000 in
theorem hitsB_any (r pb pw ph cp nh : Nat) (m : Nat → Int) (f : Nat → Bool) (w : World) (R : RamAt w r pb pw ph cp m) (hH : BMap w ph nh (toI f)) (hn : nh ≤ 1000000) :
    Calls Tryd.prog 21 #[.pointer (some ⟨r, 0, none⟩)] w fun e w' => ∃ v, e = .returned v ∧ ZRow w' w.heap.size (hitL f) v ∧ BMap w' ph 0 (fun _ => false) ∧ Keeps (fun b => b = ph) w w' := by
  refine (callsIn_wide (n := 6)).1 ?_
  obtain ⟨D, hown, h1, h2⟩ := hH
  have hbl := hown.lt
  have hsz : Maps.size D ≤ nh := hown.size_le
  have HPM := Lib.hid (BMap.keys hown h1)
  obtain ⟨es, c, hm, hfit, hes, hDE⟩ := id hown
  have hseq : SeqGives Fence.wide 2 Tryd.prog 64 #[.pointer (some ⟨w.heap.size, 0, none⟩)] encZ (fun ss => ss.Perm (intKeys D)) (Maps.size D) (w.alloc (.cells #[.map (some ph)] 84)) :=
    AnyZI.keys_gives (ρ := Tryd.keysA_ren) { Tryd.keysA with } Fence.wide _ trivial rfl (by omega) w.heap.size ph nh D _ (by simp) (by simp) (by
      exact ⟨es, c, (Below.heap_alloc _ _ ph hbl).trans hm, hfit, hes, hDE⟩)
  have cK : ∀ mb W, CallsIn Fence.wide 5 Tryd.prog 47 #[.map mb] W fun e w' => e = .returned (.func (.func 64) #[] #[.pointer (some ⟨W.heap.size, 0, none⟩)]) ∧ w' = W.alloc (.cells #[.map mb] 84) := fun mb W => AnyZI.keys_in Tryd.keysA Fence.wide 5 trivial rfl mb W
  have cS := AnyZI.sorted_in Tryd.sortedA Fence.wide 5 trivial trivial trivial trivial rfl (by omega) (sorts_atZ _) (enters_of Tryd.func34 (by kernel_rfl) rfl) 64 #[.pointer (some ⟨w.heap.size, 0, none⟩)] trivial (enters_of Tryd.func64 (by kernel_rfl) rfl) _ _ (show Maps.size D ≤ maxLen from by unfold maxLen; omega) (show Maps.size D * 8 ≤ 140737488355328 from by omega) _ hseq
  change CallsIn _ _ Tryd.prog 46 _ _ _ at cS
  have hfK : Fence.wide.fn 47 := trivial
  have hfS : Fence.wide.fn 46 := trivial
  have hc2 : w.cell? ⟨r, 2, none⟩ = some (.map (some ph)) := by unfold World.cell?; rw [R.box]; rfl
  have HM := Lib.hid hm
  have HBL := Lib.hid hbl
  clear R hown hm h1 h2 hfit hes hDE hseq hsz
  refine callsIn_of_wp Tryd.func21 rfl trivial ?_ rfl
  simp only [Tryd.ntmps21, List.size_toArray, List.length_cons, List.length_nil, Nat.reduceAdd, Nat.reduceSub, Array.replicate_succ, Array.replicate_zero, List.push_toArray, List.append_toArray, List.nil_append, List.cons_append]
  gi_wp2_with (first
    | (gi_at_call 47; refine (cK _ _).mono ?_; rintro e w' ⟨rfl, rfl⟩)
    | (gi_at_call 46; refine cS.mono ?_; rintro e w3 ⟨v, ss, rfl, hS, hrow, hnil, hb⟩; have hk3 := Keeps.trans ((Keeps.refl (fun _ => False) w).alloc (.cells #[.map (some ph)] 84)) (keeps_belowZ hb) (fun _ _ h => h); have hc3 := hk3.cell' hc2 (fun h => h); have hm3 := (hk3.block ph HBL.out (fun h => h)).trans HM.out; have hcl := run_clear_z w3 0 ph c es hm3; have HK3 := Lib.hid hk3; have HM3 := Lib.hid hm3; have HROW := Lib.hid (And.intro hS hrow); clear hk3 hm3 hS hrow hnil hb))
  go_ret
  have hperm := HROW.out.1.trans HPM.out.symm
  have hz : ZRow w3 w.heap.size (hitL f) v := by
    have hrow := HROW.out.2
    have hsh : (ss.mergeSort fun x y => decide (x ≤ y)) = hitL f := sort_hitL hperm
    rw [hsh, hperm.length_eq] at hrow
    obtain ⟨A, cap, rfl⟩ := owns_slice hrow
    obtain ⟨r1, r2⟩ := hrow
    refine ⟨A, cap, rfl, r1, ?_⟩
    rcases r2 with r2 | ⟨g, cap, cur, r3, r4, r5⟩
    · exact .inl r2
    · exact .inr ⟨g, cap, cur, r3, by rw [nblk_alloc] at r4; omega, r5⟩
  refine ⟨v, rfl, hz.keep (clearZ_keeps w3 ph c) (fun g hg e => ?_), clearZ_map w3 ph c es HM3.out, (HK3.out.mono (T := fun b => b = ph) (fun _ _ h => h.elim)).trans (clearZ_keeps w3 ph c) (fun _ _ h => h)⟩
  have e : g = ph := e
  have h1 := (hz.low g hg).1
  have h2 := HBL.out
  omega
end Go.Proofs.YtlmnmncdoiealaaDoor
