
/- The walk of the law RegionJoins. -/
import Derived.Test.YtlbdkcnbgdmpaaaDoorFormed
import Derived.Test.YtlbdkcnbgdmpaaaDoorAlike
import Derived.Deep.RegionHeld3
namespace Go.Proofs.YtlbdkcnbgdmpaaaDoor
open Go.RowKit Go.Deep
set_option linter.unusedVariables false

/-- what Form gives, its slices written out -/
theorem Formed.open_ {w w' : World} {m : Nat → Int} {pc N : Nat} {e : Ending} (h : Formed w m pc N e w') : ∃ A cap A2 n2 cap2, e = .returned (.tuple #[.agg #[.int .u32 pc, .slice A N cap, .slice A2 n2 cap2], .nilIface]) ∧ InsAt w' A N cap (nth m pc) ∧ Keeps (fun _ => False) w w' := by
  obtain ⟨iv, pv, rfl, ho, hp, hk⟩ := h
  obtain ⟨A, cap, rfl, hI⟩ := ins_of_owns ho
  obtain ⟨A2, cap2, rfl⟩ := owns_slice hp
  exact ⟨A, cap, A2, _, cap2, rfl, hI, hk⟩
theorem formE_ok {m : Nat → Int} {pc most : Int} (h : formE m pc most = 0) : 1 ≤ most ∧ most ≤ 24 ∧ pc % 4 = 0 ∧ pc < 16384 ∧ formN m pc.toNat most.toNat ≠ 0 := by
  unfold formE at h
  by_cases h1 : most < 1 ∨ 24 < most
  · rw [if_pos h1] at h; cases h
  rw [if_neg h1] at h
  by_cases h2 : pc % 4 ≠ 0
  · rw [if_pos h2] at h; cases h
  rw [if_neg h2] at h
  by_cases h3 : 16384 ≤ pc
  · rw [if_pos h3] at h; cases h
  rw [if_neg h3] at h
  by_cases h4 : formN m pc.toNat most.toNat = 0
  · rw [if_pos h4] at h; cases h
  exact ⟨by omega, by omega, by omega, by omega, h4⟩
theorem formE_zero {m : Nat → Int} {pc most : Int} (h1 : 1 ≤ most) (h2 : most ≤ 24) (h3 : pc % 4 = 0) (h4 : pc < 16384) (h5 : formN m pc.toNat most.toNat ≠ 0) : formE m pc most = 0 := by
  rw [formE, if_neg (by omega), if_neg (by omega), if_neg (by omega), if_neg h5]
theorem kdAt_add (m : Nat → Int) (pc a k : Nat) : kdAt m (pc + 4 * a) k = kdAt m pc (a + k) := by
  unfold kdAt nth
  rw [show pc + 4 * a + 4 * k = pc + 4 * (a + k) by omega]
theorem nth_add (m : Nat → Int) (pc a k : Nat) : nth m (pc + 4 * a) k = nth m pc (a + k) := by
  unfold nth
  rw [show pc + 4 * a + 4 * k = pc + 4 * (a + k) by omega]
/-- what is left of a region that was cut short begins there -/
theorem form_joins (m : Nat → Int) (pc most : Int) (h0 : 0 ≤ pc) (h : formE m pc most = 0) :
    formE m pc 24 = 0 ∧ formN m pc.toNat most.toNat ≤ formN m pc.toNat 24 ∧ formN m pc.toNat 24 ≤ 24 ∧ kdAt m pc.toNat 0 ≠ 4 ∧
      (formN m pc.toNat most.toNat < formN m pc.toNat 24 → formE m (pc + 4 * (formN m pc.toNat most.toNat : Nat)) 24 = 0 ∧ pc + 4 * (formN m pc.toNat most.toNat : Nat) < 16384 ∧
        formN m pc.toNat 24 - formN m pc.toNat most.toNat ≤ formN m (pc.toNat + 4 * formN m pc.toNat most.toNat) 24) := by
  obtain ⟨h1, h2, h3, h4, h5⟩ := formE_ok h
  obtain ⟨p, rfl⟩ := Int.eq_ofNat_of_zero_le h0
  obtain ⟨k, rfl⟩ := Int.eq_ofNat_of_zero_le (show 0 ≤ most by omega)
  simp only [Int.toNat_natCast] at *
  have hm : formN m p k ≤ formN m p 24 := Fm.go_more _ _ _ _ (by omega)
  have hle := (Fm.go_le (kdAt m p) ((16384 - p) / 4) 24 0 0).2
  refine ⟨formE_zero (by omega) (by omega) h3 h4 (by rw [Int.toNat_natCast]; show formN m p 24 ≠ 0; omega), hm, by unfold formN; omega, (Fm.go_first (kdAt m p) ((16384 - p) / 4) k (by have := h5; unfold formN at this; omega)).1, fun hlt => ?_⟩
  have hj := Fm.go_joins (kdAt m p) ((16384 - p) / 4) k 24 (by omega) hlt
  have hl := Fm.go_last (kdAt m p) ((16384 - p) / 4) 24 0 0 (Nat.zero_le _)
  generalize ha : Fm.go (kdAt m p) ((16384 - p) / 4) k 0 0 = a at *
  have ea : formN m p k = a := ha
  rw [ea] at hlt
  rw [ea]
  have hc : formN m (p + 4 * a) 24 = Fm.go (fun k => kdAt m p (a + k)) ((16384 - p) / 4 - a) 24 0 0 := by
    unfold formN
    rw [show kdAt m (p + 4 * a) = (fun k => kdAt m p (a + k)) from funext (kdAt_add m p a), show (16384 - (p + 4 * a)) / 4 = (16384 - p) / 4 - a by omega]
  have hnb : formN m p 24 = Fm.go (kdAt m p) ((16384 - p) / 4) 24 0 0 := rfl
  rw [← hc, ← hnb] at hj
  rw [← hnb] at hl
  have hla : a < (16384 - p) / 4 := Nat.lt_of_lt_of_le (show a < formN m p 24 from ea ▸ hlt) hl
  have hp2 : p + 4 * a < 16384 := by clear hj hl hlt hc hnb hm hle ha ea; omega
  have hpa : (p : Int) + 4 * (a : Nat) < 16384 := by clear hj hl hlt hc hnb hm hle ha ea; omega
  have hp3 : ((p : Int) + 4 * (a : Nat)) % 4 = 0 := by clear hj hl hlt hc hnb hm hle ha ea; omega
  refine ⟨formE_zero (by decide) (by decide) hp3 hpa ?_, hpa, hj⟩
  rw [show ((p : Int) + 4 * (a : Nat)).toNat = p + 4 * a by omega]
  show formN m (p + 4 * a) 24 ≠ 0
  clear hl hc hnb hm hle ha ea hla hp2 hpa hp3
  omega
/-- a region's box -/
theorem box3 (w : World) (a b c : Value) (T : TypeId) : (w.alloc (.cells #[a, b, c] T)).heap[w.heap.size]? = some (.cells #[a, b, c] T (0, 0)) := blk_alloc_new w (.cells #[a, b, c] T)
theorem box3_keep {w w' : World} {x : Nat} {a b c : Value} {T : TypeId} (h : w.heap[x]? = some (.cells #[a, b, c] T (0, 0))) (k : Keeps (fun _ => False) w w') : w'.heap[x]? = some (.cells #[a, b, c] T (0, 0)) :=
  (k.block x (Array.getElem?_eq_some_iff.1 h).1 (fun h => h)).trans h

theorem cells_ins : Tryd.prog.cellsOf 39 = 5 := by kernel_rfl
theorem cut_upto (A : Option Addr) (n cap k : Nat) (hk : k ≤ cap) (w : World) : (Instr.slice 27 (.slice A n cap) none (some (.int .i64 k)) none).run Tryd.prog w = .ok (.slice A k cap) w := by
  have h0 : (0 : Int) ≤ k := by omega
  have h1 : (k : Int) ≤ cap := by omega
  obtain ⟨ii, hii, hiz0, hiz1, hiz2⟩ := info_parts Tryd.info_ins
  have hA : (A.map fun x => x.add 0) = A := by cases A <;> simp [Addr.add]
  simp [Instr.slice, Instr.sliceBounds, go_sem, h0, h1]
theorem cut_from (b o n cap k : Nat) (hk : k ≤ n) (hk2 : k < cap) (w : World) : (Instr.slice 27 (.slice (some ⟨b, o, none⟩) n cap) (some (.int .i64 k)) none none).run Tryd.prog w = .ok (.slice (some ⟨b, o + k * 5, none⟩) (n - k) (cap - k)) w := by
  have h0 : (0 : Int) ≤ k := by omega
  have h1 : (k : Int) ≤ n := by omega
  have h2 : ¬ cap = k := by omega
  obtain ⟨ii, hii, hiz0, hiz1, hiz2⟩ := info_parts Tryd.info_ins
  simp [Instr.slice, Instr.sliceBounds, go_sem, h0, h1, h2]
theorem sameIns_at (A B : Option Addr) (n ca cb : Nat) (g g2 : Nat → Cd.Ins) (w wc : World) (h1 : InsAt w A n ca g) (h2 : InsAt w B n cb g2) (hg : ∀ i, i < n → g i = g2 i) (hk : Keeps (fun _ => False) w wc) :
    Calls Tryd.prog 11 #[.slice A n ca, .slice B n cb] wc fun e w' => e = .returned (.bool true) ∧ Keeps (fun _ => False) wc w' := sameIns_same A B n ca cb g g2 wc (h1.keep hk) (h2.keep hk) hg
theorem words_keep (r pb pw ph cp : Nat) (m : Nat → Int) (w wc : World) (R : RamAt w r pb pw ph cp m) (hk : Keeps (fun _ => False) w wc) :
    Calls Tryd.prog 15 #[.pointer (some ⟨r, 0, none⟩)] wc fun e w' => ∃ g, e = .returned (.slice (some ⟨g, 0, none⟩) 4096 4096) ∧ w'.rowIs g 23 4096 (fun k => .int .u32 (be m (4 * k) 4)) ∧ Keeps (fun _ => False) wc w' :=
  (words_any r pb pw ph cp m wc (R.keep hk (fun h => h) (fun h => h))).mono fun e w' ⟨he, hr, hk⟩ => ⟨_, he, hr, hk⟩
theorem new_keep (len cap : Nat) (A : Option Addr) (w wc : World) (ws m : Nat → Int) (hR : Reads w A len cap (fun i => .int .u32 (ws i))) (hc : cap ≤ 9223372036854775807) (hr : ∀ i, i < len → 0 ≤ ws i ∧ ws i < 4294967296) (hm : ramOf (min len 4096) ws = m) (hk : Keeps (fun _ => False) w wc) :
    Calls Tryd.prog 9 #[.slice A len cap] wc fun e w' => ∃ r pb pw ph cp, e = .returned (.pointer (some ⟨r, 0, none⟩)) ∧ RamAt w' r pb pw ph cp m ∧ Keeps (fun _ => False) wc w' :=
  (new_any len cap A wc ws (hR.keep hk (fun _ _ _ h => h)) hc hr).mono fun e w' ⟨he, hN⟩ => ⟨_, _, _, _, _, he, hm ▸ hN.ram, hN.keeps⟩
theorem alike_two (a b : Nat) (m : Nat → Int) (wa wb wc : World) (h1 : wa.rowIs a 23 4096 (fun k => .int .u32 (be m (4 * k) 4))) (h2 : wb.rowIs b 23 4096 (fun k => .int .u32 (be m (4 * k) 4))) (k1 : Keeps (fun _ => False) wa wc) (k2 : Keeps (fun _ => False) wb wc) :
    Calls Tryd.prog 14 #[.slice (some ⟨a, 0, none⟩) 4096 4096, .slice (some ⟨b, 0, none⟩) 4096 4096] wc fun e w' => e = .returned (.int .i64 1) ∧ Keeps (fun _ => False) wc w' :=
  alike_same a b 4096 4096 4096 (fun k => be m (4 * k) 4) wc (Nat.le_refl _) (by omega) (by omega) (fun i hi => (RowTo.of_row (k1.row h1 (fun h => h))).cell hi) (fun i hi => (RowTo.of_row (k2.row h2 (fun h => h))).cell hi)

set_option maxRecDepth 100000 in
set_option maxHeartbeats 4000000 in
theorem regionJoins_any (len cap : Nat) (A : Option Addr) (pc most : Int) (w : World) (ws : Nat → Int) (ea : Nat → Addr) (E : Errs5 w ea) (hR : Reads w A len cap (fun i => .int .u32 (ws i))) (hc : cap ≤ 9223372036854775807) (hr : ∀ i, i < len → 0 ≤ ws i ∧ ws i < 4294967296) (hpc : 0 ≤ pc ∧ pc < 4294967296) :
    Calls Tryd.prog 3 #[.slice A len cap, .int .u32 pc, .int .i64 most] w fun e w' => e = .returned (.bool true) ∧ Keeps (fun _ => False) w w' := by
  have hlc := hR.1
  by_cases h5 : 5000 < len
  · go_enter Tryd.func3, Tryd.ntmps3
    go_wp2_with fail
    refine (formed_any _ ea E).mono ?_
    rintro e w1 ⟨rfl, hK1⟩
    clear E hR hr
    go_wp2_with fail
    go_ret
    exact ⟨rfl, hK1⟩
  by_cases h6 : most < 1
  · go_enter Tryd.func3, Tryd.ntmps3
    go_wp2_with fail
    refine (formed_any _ ea E).mono ?_
    rintro e w1 ⟨rfl, hK1⟩
    clear E hR hr
    go_wp2_with fail
    go_ret
    exact ⟨rfl, hK1⟩
  by_cases h7 : 24 ≤ most
  · go_enter Tryd.func3, Tryd.ntmps3
    go_wp2_with fail
    refine (formed_any _ ea E).mono ?_
    rintro e w1 ⟨rfl, hK1⟩
    clear E hR hr
    go_wp2_with fail
    go_ret
    exact ⟨rfl, hK1⟩
  have HE := Lib.hid E
  have HR := Lib.hid hR
  have HX := Lib.hid hr
  clear E hR hr
  go_enter Tryd.func3, Tryd.ntmps3
  go_wp2_with fail
  refine (formed_any _ ea HE.out).mono ?_
  rintro e w1 ⟨rfl, hK1⟩
  have HK1 := Lib.hid hK1
  clear hK1
  go_wp2_with fail
  refine (new_any len cap A _ ws (HR.out.keep HK1.out (fun _ _ _ h => h)) hc HX.out).mono ?_
  rintro e w2 ⟨rfl, hN⟩
  have hRm := hN.ram
  have HK2 := Lib.hid (HK1.out.trans hN.keeps (fun _ _ h => h))
  have hwl := hN.size
  clear hN
  generalize hmm : ramOf (min len 4096) ws = m at *
  have HMM := Lib.hid hmm
  generalize w1.heap.size + 3 = r at *
  generalize w1.heap.size + 2 = ph at *
  generalize w1.heap.size + 1 = pw at *
  generalize w1.heap.size = pb at *
  have HM := Lib.hid hRm
  clear hRm hmm hwl
  go_wp2_with fail
  refine (form_any r pb pw ph _ m pc most _ ea (HE.out.quiet HK2.out) HM.out hpc).mono ?_
  intro e w3 hF
  rcases hF with ⟨hne, rfl, hk3⟩ | ⟨hz, hF⟩
  · have hw3 := HK2.out.trans hk3 (fun _ _ h => h)
    have ka := (Keeps.refl (fun _ => False) w3).alloc (.cells #[.int .u32 0, .slice none 0 0, .slice none 0 0] 30)
    have HK3 := Lib.hid (hw3.trans ka (fun _ _ h => h))
    have HM3 := Lib.hid ((HM.out.keep hk3 (fun h => h) (fun h => h)).keep ka (fun h => h) (fun h => h))
    have HBA := Lib.hid (box3 w3 (.int .u32 0) (.slice none 0 0) (.slice none 0 0) 30)
    clear hw3 ka hk3 hne
    unfold noRegion errV
    generalize ea (formE m pc most) = ad at *
    go_wp2_with fail
    generalize w3.alloc (.cells #[.int .u32 0, .slice none 0 0, .slice none 0 0] 30) = w4 at *
    generalize w3.heap.size = xa at *
    refine (form_any r pb pw ph _ m pc 24 _ ea (HE.out.quiet HK3.out) HM3.out hpc).mono ?_
    intro e w5 hF
    rcases hF with ⟨_, rfl, hk5⟩ | ⟨_, hF⟩
    · have HBA5 := Lib.hid (box3_keep HBA.out (hk5.alloc (.cells #[.int .u32 0, .slice none 0 0, .slice none 0 0] 30)))
      have HK5 := Lib.hid (HK3.out.trans (hk5.alloc (.cells #[.int .u32 0, .slice none 0 0, .slice none 0 0] 30)) (fun _ _ h => h))
      obtain ⟨⟨a0, a1, a2⟩, _⟩ := cells3 HBA5.out
      clear hk5
      unfold noRegion errV
      generalize ea (formE m pc 24) = ad2 at *
      go_wp2_with fail
      go_ret
      exact ⟨rfl, HK5.out⟩
    · rw [show formN m pc.toNat (24 : Int).toNat = formN m pc.toNat 24 from rfl] at hF
      generalize formN m pc.toNat 24 = nn at *
      have HPC := Lib.hid (show (pc.toNat : Int) = pc by omega)
      obtain ⟨B1, cb1, B2, nb2, cb2, rfl, _, hk5⟩ := hF.open_
      rw [HPC.out]
      have HBA5 := Lib.hid (box3_keep HBA.out (hk5.alloc (.cells #[.int .u32 pc, .slice B1 nn cb1, .slice B2 nb2 cb2] 30)))
      have HK5 := Lib.hid (HK3.out.trans (hk5.alloc (.cells #[.int .u32 pc, .slice B1 nn cb1, .slice B2 nb2 cb2] 30)) (fun _ _ h => h))
      obtain ⟨⟨a0, a1, a2⟩, _⟩ := cells3 HBA5.out
      clear hk5 hF
      go_wp2_with fail
      go_ret
      exact ⟨rfl, HK5.out⟩
  · obtain ⟨j1, j2, j3, j4, j5⟩ := form_joins m pc most hpc.1 hz
    have hna0 := (formE_ok hz).2.2.2.2
    have HJ5 := Lib.hid j5
    have HJ4 := Lib.hid j4
    have HJ1 := Lib.hid j1
    obtain ⟨A1, ca1, A2, na2, ca2, rfl, hIa, hk3⟩ := hF.open_
    clear j5 j4 j1 hz hF
    generalize hna : formN m pc.toNat most.toNat = na at *
    generalize hnb : formN m pc.toNat 24 = nb at *
    have HNB := Lib.hid hnb
    have HPC := Lib.hid (show (pc.toNat : Int) = pc by omega)
    rw [HPC.out]
    have ka := (Keeps.refl (fun _ => False) w3).alloc (.cells #[.int .u32 pc, .slice A1 na ca1, .slice A2 na2 ca2] 30)
    have HK3 := Lib.hid ((HK2.out.trans hk3 (fun _ _ h => h)).trans ka (fun _ _ h => h))
    have HM3 := Lib.hid ((HM.out.keep hk3 (fun h => h) (fun h => h)).keep ka (fun h => h) (fun h => h))
    have HBA := Lib.hid (box3 w3 (.int .u32 pc) (.slice A1 na ca1) (.slice A2 na2 ca2) 30)
    have HIA := Lib.hid (hIa.keep ka)
    clear ka hk3 hna hnb hIa
    go_wp2_with fail
    generalize w3.alloc (.cells #[.int .u32 pc, .slice A1 na ca1, .slice A2 na2 ca2] 30) = w4 at *
    generalize w3.heap.size = xa at *
    refine (form_any r pb pw ph _ m pc 24 _ ea (HE.out.quiet HK3.out) HM3.out hpc).mono ?_
    intro e w5 hF
    rcases hF with ⟨h, _⟩ | ⟨_, hF⟩
    · exact absurd HJ1.out h
    rw [show formN m pc.toNat (24 : Int).toNat = nb from HNB.out] at hF
    obtain ⟨B1, cb1, B2, nb2, cb2, rfl, hIb, hk5⟩ := hF.open_
    rw [HPC.out]
    have kb := (Keeps.refl (fun _ => False) w5).alloc (.cells #[.int .u32 pc, .slice B1 nb cb1, .slice B2 nb2 cb2] 30)
    have hkb := hk5.trans kb (fun _ _ h => h)
    have HK5 := Lib.hid (HK3.out.trans hkb (fun _ _ h => h))
    have HM5 := Lib.hid (HM3.out.keep hkb (fun h => h) (fun h => h))
    have HBA5 := Lib.hid (box3_keep HBA.out hkb)
    have HIA5 := Lib.hid (HIA.out.keep hkb)
    have HBB := Lib.hid (box3 w5 (.int .u32 pc) (.slice B1 nb cb1) (.slice B2 nb2 cb2) 30)
    have HIB := Lib.hid (hIb.keep kb)
    clear hF hIb hk5 kb hkb
    go_upto_region 9 with fail
    generalize w5.alloc (.cells #[.int .u32 pc, .slice B1 nb cb1, .slice B2 nb2 cb2] 30) = w6 at *
    generalize w5.heap.size = xb at *
    obtain ⟨⟨a0, a1, a2⟩, _⟩ := cells3 HBA5.out
    obtain ⟨⟨b0, b1, b2⟩, _⟩ := cells3 HBB.out
    have hnb24 : nb ≤ 24 := j3
    by_cases hlt : na < nb
    · obtain ⟨q1, q2, q3⟩ := HJ5.out hlt
      obtain ⟨k, rfl⟩ : ∃ k, nb = na + k := ⟨nb - na, by omega⟩
      have hk0 : 0 < k := by omega
      go_wp2_with fail
      refine (len_any _ _ _ A1 na ca1 rfl (by omega) _).mono ?_
      rintro e w7 ⟨rfl, hk7⟩
      have HK7 := Lib.hid (HK5.out.trans hk7 (fun _ _ h => h))
      have HM7 := Lib.hid (HM5.out.keep hk7 (fun h => h) (fun h => h))
      have HBA7 := Lib.hid (box3_keep HBA5.out hk7)
      have HBB7 := Lib.hid (box3_keep HBB.out hk7)
      have HIA7 := Lib.hid (HIA5.out.keep hk7)
      have HIB7 := Lib.hid (HIB.out.keep hk7)
      have HW1 := Lib.hid (show IntKind.u32.wrap (pc + IntKind.u32.wrap (4 * (na : Int))) = pc + 4 * (na : Nat) by rw [IntKind.wrap_u32', IntKind.wrap_u32']; omega)
      clear hk7 a0 a1 a2 b0 b1 b2
      go_wp2_with fail
      try rw [HW1.out]
      refine (form_any r pb pw ph _ m (pc + 4 * (na : Nat)) 24 _ ea (HE.out.quiet HK7.out) HM7.out (by omega)).mono ?_
      intro e w8 hF
      rcases hF with ⟨h, _⟩ | ⟨_, hF⟩
      · exact absurd q1 h
      have htn : (pc + 4 * (na : Nat)).toNat = pc.toNat + 4 * na := by omega
      rw [htn, show formN m (pc.toNat + 4 * na) (24 : Int).toNat = formN m (pc.toNat + 4 * na) 24 from rfl] at hF
      have hnc24 : formN m (pc.toNat + 4 * na) 24 ≤ 24 := by have := (Fm.go_le (kdAt m (pc.toNat + 4 * na)) ((16384 - (pc.toNat + 4 * na)) / 4) 24 0 0).2; unfold formN; omega
      generalize formN m (pc.toNat + 4 * na) 24 = nc at *
      obtain ⟨C1, cc1, C2, nc2, cc2, rfl, hIc, hk8⟩ := hF.open_
      have HPC2 := Lib.hid (show ((pc.toNat + 4 * na : Nat) : Int) = pc + 4 * na by omega)
      rw [HPC2.out]
      have kc := (Keeps.refl (fun _ => False) w8).alloc (.cells #[.int .u32 (pc + 4 * na), .slice C1 nc cc1, .slice C2 nc2 cc2] 30)
      have hkc := hk8.trans kc (fun _ _ h => h)
      have HK8 := Lib.hid (HK7.out.trans hkc (fun _ _ h => h))
      have HM8 := Lib.hid (HM7.out.keep hkc (fun h => h) (fun h => h))
      have HBA8 := Lib.hid (box3_keep HBA7.out hkc)
      have HBB8 := Lib.hid (box3_keep HBB7.out hkc)
      have HIA8 := Lib.hid (HIA7.out.keep hkc)
      have HIB8 := Lib.hid (HIB7.out.keep hkc)
      have HBC := Lib.hid (box3 w8 (.int .u32 (pc + 4 * na)) (.slice C1 nc cc1) (.slice C2 nc2 cc2) 30)
      have HIC := Lib.hid (hIc.keep kc)
      clear hF hIc hk8 kc hkc htn
      go_upto_region 14 with fail
      generalize w8.alloc (.cells #[.int .u32 (pc + 4 * na), .slice C1 nc cc1, .slice C2 nc2 cc2] 30) = w9 at *
      generalize w8.heap.size = xc at *
      obtain ⟨⟨a0, a1, a2⟩, _⟩ := cells3 HBA8.out
      obtain ⟨⟨b0, b1, b2⟩, _⟩ := cells3 HBB8.out
      obtain ⟨⟨d0, d1, d2⟩, _⟩ := cells3 HBC.out
      go_upto_region 16 with fail
      have hkc : k ≤ nc := by omega
      obtain ⟨gc, oc, rfl, HIC2⟩ : ∃ gc oc, C1 = some ⟨gc, oc, none⟩ ∧ Hid (InsAt w9 (some ⟨gc, oc, none⟩) k cc1 (nth m (pc.toNat + 4 * na))) := by
        obtain ⟨gc, oc, e, _⟩ := HIC.out.from_ 0 (by omega)
        exact ⟨gc, oc, e, Lib.hid (e ▸ HIC.out.upto k hkc)⟩
      obtain ⟨gb, ob, rfl, hIB2⟩ := HIB8.out.from_ na (by omega)
      have HIB2 := Lib.hid hIB2
      obtain ⟨ga, oa, rfl, hca⟩ : ∃ ga oa, A1 = some ⟨ga, oa, none⟩ ∧ w9.cell? ⟨ga, oa, none⟩ = some (.int .i64 (nth m pc.toNat 0).op) := by
        obtain ⟨_, _, h3 | ⟨b, o, h3, h4⟩⟩ := HIA8.out
        · omega
        · exact ⟨b, o, h3, h4 0 (by omega) 0 _ rfl⟩
      have hop0 : (nth m pc.toNat 0).op < 54 := (Cd.ok_dec _).op
      obtain ⟨ks, t2, hkind⟩ : ∃ ks : ByteArray, (ks.toList == [116, 114, 97, 112]) = false ∧ ∀ wc, Calls Tryd.prog 13 #[.int .i64 (nth m pc.toNat 0).op] wc fun e w' => e = .returned (.string ks) ∧ Keeps (fun _ => False) wc w' := by
        refine ⟨_, ?_, Kind_any _ hop0⟩
        rw [(kd_test _ (kd_lt6 _ hop0)).2.2]
        simp only [decide_eq_false_iff_not]
        exact HJ4.out
      have HKIND := Lib.hid hkind
      clear hkind
      have hcb := HIB8.out.1
      have hcb2 := HIB8.out.2.1
      have hcc := HIC2.out.1
      have hcc2 := HIC2.out.2.1
      generalize (nth m pc.toNat 0).op = op0 at *
      have v1 : IntKind.i64.wrap ((na : Int) + k - na) = k := by rw [IntKind.wrap_i64]; omega
      have v2 : (na : Int) + k - na = k := by omega
      have v3 : (0 : Int) ≤ k := by omega
      have v4 : (k : Int) ≤ cc1 := by omega
      have v5 : (0 : Int) ≤ na := by omega
      have v6 : (na : Int) ≤ na + k := by omega
      have v7 : (na : Int) + k ≤ cb1 := by omega
      have v8 : ¬ cb1 = na := by omega
      have v9 : ¬ na = cb1 := by omega
      have v10 : ¬ cc1 = 0 := by omega
      have v11 : ¬ 0 = cc1 := by omega
      have v12 : k ≤ cc1 := by omega
      have v13 : na + k - na = k := by omega
      have v14 : ((cc1 : Nat) : Int) ≤ 9223372036854775807 := by omega
      have v15 : ((cb1 : Nat) : Int) ≤ 9223372036854775807 := by omega
      have v16 : (na : Int) ≤ cb1 := by omega
      have v18 : (0 : Int) < na := by omega
      have v19 : 0 < na := by omega
      have v17 : IntKind.i64.wrap (k : Int) = k := by rw [IntKind.wrap_i64]; omega
      have hs1 := cut_upto (some ⟨gc, oc, none⟩) nc cc1 k v12
      have hs2 := cut_from gb ob (na + k) cb1 na (by omega) (by omega)
      rw [v13] at hs2
      have HIB2k : Hid (InsAt w9 (some ⟨gb, ob + na * 5, none⟩) k (cb1 - na) (fun i => nth m pc.toNat (na + i))) := Lib.hid (by have := HIB2.out; rwa [Nat.add_sub_cancel_left] at this)
      clear hIB2
      go_region_held3 (fun w' => Keeps (fun _ => False) w9 w' ∧ w'.cell? ⟨xa, 0 + 1, none⟩ = some (.slice (some ⟨ga, oa, none⟩) na ca1) ∧ w'.cell? ⟨xb, 0 + 1, none⟩ = some (.slice (some ⟨gb, ob, none⟩) (na + k) cb1) ∧ w'.cell? ⟨xc, 0 + 1, none⟩ = some (.slice (some ⟨gc, oc, none⟩) nc cc1) ∧ w'.cell? ⟨ga, oa, none⟩ = some (.int .i64 op0))
        (first | (refine ⟨?_, ?_, ?_, ?_, ?_⟩ <;> first | ((repeat (first | exact Keeps.refl _ _ | assumption | apply Keeps.drew | apply Keeps.drewN | apply Keeps.alloc | (refine Keeps.trans ?_ (by assumption) (fun _ _ h => h)))); done) | (refine Keeps.cell' (S := fun _ => False) (w := w9) ?_ (by assumption) (fun f => f); (repeat (first | exact Keeps.refl _ _ | assumption | apply Keeps.drew | apply Keeps.drewN | apply Keeps.alloc | (refine Keeps.trans ?_ (by assumption) (fun _ _ h => h)))); done)) | (trace_state; fail))
        (first
          | (go_at_call 11; refine (sameIns_at _ _ k cc1 (cb1 - na) _ _ w9 _ HIC2.out (HIB2k.out) ?_ ?_).mono ?_; (intro i hi; exact nth_add m pc.toNat na i); (repeat (first | exact Keeps.refl _ _ | assumption | apply Keeps.drew | apply Keeps.drewN | apply Keeps.alloc | (refine Keeps.trans ?_ (by assumption) (fun _ _ h => h)))); rintro e wq ⟨rfl, hkq⟩)
          | (go_at_call 13; refine (HKIND.out _).mono ?_; rintro e wk ⟨rfl, hkk⟩)
          | (go_at_call 15; with_reducible refine (words_keep r pb pw ph _ m w9 _ HM8.out ?_).mono ?_; (repeat (first | exact Keeps.refl _ _ | assumption | apply Keeps.drew | apply Keeps.drewN | apply Keeps.alloc | (refine Keeps.trans ?_ (by assumption) (fun _ _ h => h)))); rintro e wa ⟨g1, rfl, hr1, hkr1⟩)
          | (go_at_call 9; refine (new_keep len cap A w9 _ ws m (HR.out.keep HK8.out (fun _ _ _ h => h)) hc HX.out HMM.out ?_).mono ?_; (repeat (first | exact Keeps.refl _ _ | assumption | apply Keeps.drew | apply Keeps.drewN | apply Keeps.alloc | (refine Keeps.trans ?_ (by assumption) (fun _ _ h => h)))); rintro e wn ⟨r2, p2, q2, s2, c2, rfl, hR2, hkn⟩)
          | (go_at_call 15; with_reducible refine (words_keep r2 p2 q2 s2 c2 m wn _ hR2 ?_).mono ?_; (repeat (first | exact Keeps.refl _ _ | assumption | apply Keeps.drew | apply Keeps.drewN | apply Keeps.alloc | (refine Keeps.trans ?_ (by assumption) (fun _ _ h => h)))); rintro e wb ⟨g2, rfl, hr2, hkr2⟩)
          | (go_at_call 14; refine (alike_two g1 g2 m wa wb _ hr1 hr2 ?_ ?_).mono ?_; (repeat (first | exact Keeps.refl _ _ | assumption | apply Keeps.drew | apply Keeps.drewN | apply Keeps.alloc | (refine Keeps.trans ?_ (by assumption) (fun _ _ h => h)))); (repeat (first | exact Keeps.refl _ _ | assumption | apply Keeps.drew | apply Keeps.drewN | apply Keeps.alloc | (refine Keeps.trans ?_ (by assumption) (fun _ _ h => h)))); rintro e wz ⟨rfl, hkz⟩))
      rename_i hh
      have hK := hh.1
      clear hh
      go_wp2
      go_ret
      exact ⟨rfl, HK8.out.trans hK (fun _ _ h => h)⟩
    · obtain rfl : nb = na := by omega
      go_wp2_with fail
      refine (sameIns_same A1 B1 _ ca1 cb1 _ _ _ HIA5.out HIB.out (fun i _ => rfl)).mono ?_
      rintro e w7 ⟨rfl, hk7⟩
      have HK7 := Lib.hid (HK5.out.trans hk7 (fun _ _ h => h))
      clear hk7 a0 a1 a2 b0 b1 b2
      go_wp2_with fail
      go_ret
      exact ⟨rfl, HK7.out⟩
end Go.Proofs.YtlbdkcnbgdmpaaaDoor
