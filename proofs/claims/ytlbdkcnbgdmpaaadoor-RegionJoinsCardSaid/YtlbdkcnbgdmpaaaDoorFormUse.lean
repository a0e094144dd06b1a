
/- region.Form at any call; Len, Ends; the closed fact formed; sameIns. -/
import Derived.Test.YtlbdkcnbgdmpaaaDoorFormWalk
import Derived.Deep.RegionWith
namespace Go.Proofs.YtlbdkcnbgdmpaaaDoor
open Go.RowKit Go.Deep
set_option linter.unusedVariables false

/-- the number of Form's error; 0: none -/
def formE (m : Nat → Int) (pc most : Int) : Nat := if most < 1 ∨ 24 < most then 2 else if pc % 4 ≠ 0 then 9 else if 16384 ≤ pc then 10 else if formN m pc.toNat most.toNat = 0 then 6 else 0
theorem formE_le (m : Nat → Int) (pc most : Int) : formE m pc most ≤ 10 := by
  unfold formE
  repeat' split
  all_goals omega
def FormOut (w : World) (m : Nat → Int) (pc most : Int) (ea : Nat → Addr) (e : Ending) (w' : World) : Prop :=
  (formE m pc most ≠ 0 ∧ e = .returned (.tuple #[noRegion, errV ea (formE m pc most)]) ∧ Keeps (fun _ => False) w w') ∨ (formE m pc most = 0 ∧ Formed w m pc.toNat (formN m pc.toNat most.toNat) e w')
theorem form_any (r pb pw ph cp : Nat) (m : Nat → Int) (pc most : Int) (w : World) (ea : Nat → Addr) (E : Errs5 w ea) (R : RamAt w r pb pw ph cp m) (hpc : 0 ≤ pc ∧ pc < 4294967296) :
    Calls Tryd.prog 10 #[.pointer (some ⟨r, 0, none⟩), .int .u32 pc, .int .i64 most] w fun e w' => FormOut w m pc most ea e w' := by
  unfold FormOut
  by_cases h1 : most < 1
  · have e : formE m pc most = 2 := by rw [formE, if_pos (.inl h1)]
    rw [e]
    exact (form_low r pc most w ea E h1).mono fun e w' h => .inl ⟨by decide, h⟩
  by_cases h2 : 24 < most
  · have e : formE m pc most = 2 := by rw [formE, if_pos (.inr h2)]
    rw [e]
    exact (form_high r pc most w ea E h2).mono fun e w' h => .inl ⟨by decide, h⟩
  by_cases h3 : pc % 4 ≠ 0
  · have e : formE m pc most = 9 := by rw [formE, if_neg (by omega), if_pos h3]
    rw [e]
    exact (form_align r pc most w ea E (by omega) (by omega) hpc.1 (by simpa using h3)).mono fun e w' h => .inl ⟨by decide, h⟩
  by_cases h4 : 16384 ≤ pc
  · have e : formE m pc most = 10 := by rw [formE, if_neg (by omega), if_neg h3, if_pos h4]
    rw [e]
    exact (form_far r pc most w ea E (by omega) (by omega) hpc.1 (by simp; omega) h4).mono fun e w' h => .inl ⟨by decide, h⟩
  obtain ⟨p, rfl⟩ := Int.eq_ofNat_of_zero_le hpc.1
  obtain ⟨k, rfl⟩ := Int.eq_ofNat_of_zero_le (show 0 ≤ most by omega)
  refine (form_walk r pb pw ph cp m p k w ea E R (by omega) (by omega) (by omega) (by omega) _ (Lib.hid rfl)).mono fun e w' h => ?_
  rw [Int.toNat_natCast, Int.toNat_natCast]
  rcases h with ⟨hN, h⟩ | ⟨hN, h⟩
  · have e : formE m p k = 6 := by rw [formE, if_neg (by omega), if_neg h3, if_neg h4, Int.toNat_natCast, Int.toNat_natCast, if_pos hN]
    rw [e]
    exact .inl ⟨by decide, h⟩
  · have e : formE m p k = 0 := by rw [formE, if_neg (by omega), if_neg h3, if_neg h4, Int.toNat_natCast, Int.toNat_natCast, if_neg hN]
    rw [e]
    exact .inr ⟨rfl, h⟩

/-- a slice of instructions as it lies -/
def InsAt (w : World) (A : Option Addr) (n cap : Nat) (g : Nat → Cd.Ins) : Prop := n ≤ cap ∧ cap ≤ 9223372036854775807 ∧ (n = 0 ∨ ∃ b o, A = some ⟨b, o, none⟩ ∧ ∀ i, i < n → ∀ j u, (insC (g i)).toList[j]? = some u → w.cell? ⟨b, o + i * 5 + j, none⟩ = some u)
theorem InsAt.keep {w w' : World} {A : Option Addr} {n cap : Nat} {g : Nat → Cd.Ins} (h : InsAt w A n cap g) (k : Keeps (fun _ => False) w w') : InsAt w' A n cap g := by
  obtain ⟨h1, h2, h3 | ⟨b, o, h3, h4⟩⟩ := h
  · exact ⟨h1, h2, .inl h3⟩
  · exact ⟨h1, h2, .inr ⟨b, o, h3, fun i hi j u hu => k.cell' (h4 i hi j u hu) (fun f => f)⟩⟩
theorem insL_len (m : Nat → Int) (pc n : Nat) : (insL m pc n).length = n * 5 := by
  induction n with
  | zero => rfl
  | succ n ih => rw [insL_succ, List.length_append, ih]; simp [insC]; omega
theorem insL_get (m : Nat → Int) (pc : Nat) : ∀ n i, i < n → ∀ j u, (insC (nth m pc i)).toList[j]? = some u → (insL m pc n)[i * 5 + j]? = some u
  | 0, i, h, _, _, _ => by omega
  | n + 1, i, h, j, u, hu => by
    have hj : j < 5 := by
      have := (List.getElem?_eq_some_iff.1 hu).1
      simpa [insC] using this
    rw [insL_succ]
    by_cases hin : i < n
    · rw [List.getElem?_append_left (by rw [insL_len]; omega)]
      exact insL_get m pc n i hin j u hu
    · obtain rfl : i = n := by omega
      rw [List.getElem?_append_right (by rw [insL_len]; omega), insL_len, show i * 5 + j - i * 5 = j by omega]
      exact hu
theorem ins_of_owns {w : World} {B : Nat} {v : Value} {m : Nat → Int} {pc n : Nat} (h : w.ownsRow B 39 5 v n (insL m pc n)) : ∃ A cap, v = .slice A n cap ∧ InsAt w A n cap (nth m pc) := by
  by_cases h0 : n = 0
  · rcases h.2 with ⟨h1, h2⟩ | ⟨g, cap, cur, h1, h2, h3, h4, h5, _⟩
    · exact ⟨none, 0, by rw [h1, h2], by omega, by omega, .inl h0⟩
    · exact ⟨_, cap, h1, h4, by unfold maxLen at h5; omega, .inl h0⟩
  · obtain ⟨g, cap, h1, _, h3, h4, h5⟩ := owns_some h (by omega)
    refine ⟨_, cap, h1, h3, by unfold maxLen at h4; omega, .inr ⟨g, 0, rfl, fun i hi j u hu => ?_⟩⟩
    rw [Nat.zero_add]
    exact h5 _ _ (insL_get m pc n i hi j u hu)
/-- a part of it -/
theorem InsAt.from_ {w : World} {A : Option Addr} {n cap : Nat} {g : Nat → Cd.Ins} (h : InsAt w A n cap g) (k : Nat) (hk : k < n) : ∃ b o, A = some ⟨b, o, none⟩ ∧ InsAt w (some ⟨b, o + k * 5, none⟩) (n - k) (cap - k) (fun i => g (k + i)) := by
  obtain ⟨h1, h2, h3 | ⟨b, o, h3, h4⟩⟩ := h
  · omega
  · refine ⟨b, o, h3, by omega, by omega, .inr ⟨b, o + k * 5, rfl, fun i hi j u hu => ?_⟩⟩
    have := h4 (k + i) (by omega) j u hu
    rw [show o + k * 5 + i * 5 + j = o + (k + i) * 5 + j by omega]
    exact this
theorem InsAt.upto {w : World} {A : Option Addr} {n cap : Nat} {g : Nat → Cd.Ins} (h : InsAt w A n cap g) (k : Nat) (hk : k ≤ n) : InsAt w A k cap g := by
  obtain ⟨h1, h2, h3 | ⟨b, o, h3, h4⟩⟩ := h
  · exact ⟨by omega, h2, .inl (by omega)⟩
  · exact ⟨by omega, h2, .inr ⟨b, o, h3, fun i hi => h4 i (by omega)⟩⟩

set_option maxRecDepth 100000 in
set_option maxHeartbeats 1000000 in
theorem sameIns_same (A B : Option Addr) (n ca cb : Nat) (g g2 : Nat → Cd.Ins) (w : World) (h1 : InsAt w A n ca g) (h2 : InsAt w B n cb g2) (hg : ∀ i, i < n → g i = g2 i) :
    Calls Tryd.prog 11 #[.slice A n ca, .slice B n cb] w fun e w' => e = .returned (.bool true) ∧ Keeps (fun _ => False) w w' := by
  have b1 := h1.1
  have b2 := h2.1
  have b3 := h1.2.1
  have b4 := h2.2.1
  have H1 := Lib.hid h1
  have H2 := Lib.hid h2
  have HG := Lib.hid hg
  clear h1 h2 hg
  go_enter Tryd.func11, Tryd.ntmps11
  go_wp2_with fail
  go_loopw [5] (fun s5 wr => ∃ i : Nat, i ≤ n ∧ s5 = .int .i64 i ∧ Keeps (fun _ => False) w wr) (fun s5 _ => n - (intOf s5).toNat)
  case atStart => exact ⟨0, by omega, rfl, Keeps.refl _ w⟩
  case round =>
    obtain ⟨i, hi, rfl, hK⟩ := hrel
    by_cases hlt : i < n
    · obtain ⟨ga, oa, rfl, hca⟩ : ∃ g0 o, A = some ⟨g0, o, none⟩ ∧ ∀ j u, (insC (g i)).toList[j]? = some u → wr.cell? ⟨g0, o + i * 5 + j, none⟩ = some u := by
        obtain ⟨_, _, h3 | ⟨g0, o, h3, h4⟩⟩ := H1.out.keep hK
        · omega
        · exact ⟨g0, o, h3, h4 i hlt⟩
      obtain ⟨gb, ob, rfl, hcb⟩ : ∃ g0 o, B = some ⟨g0, o, none⟩ ∧ ∀ j u, (insC (g i)).toList[j]? = some u → wr.cell? ⟨g0, o + i * 5 + j, none⟩ = some u := by
        rw [HG.out i hlt]
        obtain ⟨_, _, h3 | ⟨g0, o, h3, h4⟩⟩ := H2.out.keep hK
        · omega
        · exact ⟨g0, o, h3, h4 i hlt⟩
      generalize g i = ins at *
      obtain ⟨op, S, T, D, imm⟩ := ins
      have p0 : wr.cell? ⟨ga, oa + i * 5, none⟩ = some (.int .i64 op) := hca 0 _ rfl
      have p1 := hca 1 _ rfl
      have p2 := hca 2 _ rfl
      have p3 := hca 3 _ rfl
      have p4 := hca 4 _ rfl
      have r0 : wr.cell? ⟨gb, ob + i * 5, none⟩ = some (.int .i64 op) := hcb 0 _ rfl
      have r1 := hcb 1 _ rfl
      have r2 := hcb 2 _ rfl
      have r3 := hcb 3 _ rfl
      have r4 := hcb 4 _ rfl
      clear hca hcb
      go_wp2_with fail
      go_quiet (fail)
      go_wp2_with fail
      go_roundw
      case rel => exact ⟨i + 1, by omega, by go_num, hK.drewN _⟩
      case measure => simp [intOf]; omega
    · obtain rfl : i = n := by omega
      go_wp2_with fail
      go_ret
      exact ⟨rfl, hK⟩
theorem len_any (p iv pv : Value) (A : Option Addr) (n cap : Nat) (hiv : iv = .slice A n cap) (hn : n ≤ 24) (w : World) :
    Calls Tryd.prog 12 #[.agg #[p, iv, pv]] w fun e w' => e = .returned (.int .i64 (4 * n)) ∧ Keeps (fun _ => False) w w' := by
  subst hiv
  go_enter Tryd.func12, Tryd.ntmps12
  go_wp2_with fail
  go_ret
  exact ⟨rfl, (Keeps.refl _ _).alloc _⟩
/-- how a region ends -/
def endsS (g : Nat → Cd.Ins) (n : Nat) : List UInt8 := if 1 < n ∧ Cd.kd (g (n - 2)).op = 1 then [98, 114, 97, 110, 99, 104] else [111, 110]
set_option maxHeartbeats 1000000 in
theorem ends_any (p pv : Value) (A : Option Addr) (n cap : Nat) (g : Nat → Cd.Ins) (hn : n ≤ 24) (hop : ∀ i, (g i).op < 54) (w : World) (h : InsAt w A n cap g) (t : List UInt8) (ht : Hid (t = endsS g n)) :
    Calls Tryd.prog 21 #[.agg #[p, .slice A n cap, pv]] w fun e w' => e = .returned (.string ⟨t.toArray⟩) ∧ Keeps (fun _ => False) w w' := by
  have b1 := h.1
  have b2 := h.2.1
  have kb := (Keeps.refl (fun _ => False) w).alloc (.cells #[p, .slice A n cap, pv] 30)
  have HI := Lib.hid (h.keep kb)
  have HK := Lib.hid kb
  clear h kb
  by_cases h1 : 1 < n
  · obtain ⟨b, o, rfl, hc⟩ : ∃ b o, A = some ⟨b, o, none⟩ ∧ (w.alloc (.cells #[p, .slice A n cap, pv] 30)).cell? ⟨b, o + (n - 2) * 5, none⟩ = some (.int .i64 (g (n - 2)).op) := by
      obtain ⟨_, _, h | ⟨b, o, h3, h4⟩⟩ := HI.out
      · omega
      · exact ⟨b, o, h3, h4 (n - 2) (by omega) 0 _ rfl⟩
    have hop2 := hop (n - 2)
    have HT := Lib.hid (show t = if Cd.kd (g (n - 2)).op = 1 then [98, 114, 97, 110, 99, 104] else [111, 110] by rw [ht.out]; unfold endsS; simp [h1])
    have hn2 : ((n : Int) - 2).toNat = n - 2 := by omega
    clear hop ht
    generalize (g (n - 2)).op = op at *
    go_enter Tryd.func21, Tryd.ntmps21
    go_wp2_with fail
    refine (Kind_any op hop2 _).mono ?_
    rintro e w2 ⟨rfl, hk2⟩
    have HK2 := Lib.hid (HK.out.trans hk2 (fun _ _ h => h))
    have HTS := Lib.hid (kd_test (Cd.kd op) (kd_lt6 op hop2))
    clear hk2
    generalize hkk : Cd.kd op = kx at *
    have HKK := Lib.hid hkk
    clear hkk
    generalize (⟨(Cd.kindS kx).toArray⟩ : ByteArray) = ks at *
    by_cases hb : kx = 1
    · have t1 : (ks.toList == [98, 114, 97, 110, 99, 104]) = true := by rw [HTS.out.2.1]; simp [hb]
      go_wp2_with fail
      go_ret
      have e : t = [98, 114, 97, 110, 99, 104] := by rw [HT.out, if_pos hb]
      subst e
      exact ⟨rfl, HK2.out⟩
    · have t1 : (ks.toList == [98, 114, 97, 110, 99, 104]) = false := by rw [HTS.out.2.1]; simp [hb]
      go_wp2_with fail
      go_ret
      have e : t = [111, 110] := by rw [HT.out, if_neg hb]
      subst e
      exact ⟨rfl, HK2.out⟩
  · go_enter Tryd.func21, Tryd.ntmps21
    go_wp2_with fail
    go_ret
    have e : t = [111, 110] := by rw [ht.out]; unfold endsS; simp [h1]
    subst e
    exact ⟨rfl, HK.out⟩

end Go.Proofs.YtlbdkcnbgdmpaaaDoor
