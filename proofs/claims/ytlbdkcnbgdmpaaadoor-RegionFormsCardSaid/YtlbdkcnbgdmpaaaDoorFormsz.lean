import Derived.Test.YtlbdkcnbgdmpaaaDoorFormsz4
import Derived.Test.YtlbdkcnbgdmpaaaDoorTakesz2
import Derived.Deep.RegionHeld3
import Derived.Test.YtlbdkcnbgdmpaaaDoorFormsz5
import Derived.Test.YtlbdkcnbgdmpaaaDoorTakesz13
import Derived.Test.YtlbdkcnbgdmpaaaDoorTakesz4
import Derived.Test.YtlbdkcnbgdmpaaaDoorTakesz
import Derived.LaidHandle
import Derived.Test.YtlbdkcnbgdmpaaaDoorCards
import Derived.Test.YtlbdkcnbgdmpaaaDoorTie
import Derived.Stop.Joined
import Derived.LaidSub

/- Formed -/
/- The closed fact formed. -/
namespace Go.Proofs.YtlbdkcnbgdmpaaaDoor
open Go.RowKit Go.Deep
set_option linter.unusedVariables false

/-- the memory of formed -/
def formedW : Nat → Int := fun i => if i = 0 then 604045319 else 12
theorem formed_E : formE (ramOf (min 2 4096) formedW) 0 5 = 0 := by kernel_rfl
theorem formed_N : formN (ramOf (min 2 4096) formedW) (0 : Int).toNat (5 : Int).toNat = 1 := by kernel_rfl
theorem formed_rng (i : Nat) : 0 ≤ formedW i ∧ formedW i < 4294967296 := by unfold formedW; split <;> omega
theorem formed_mem : ∃ m : Nat → Int, m = ramOf (min 2 4096) formedW ∧ formE m 0 5 = 0 ∧ formN m (0 : Int).toNat (5 : Int).toNat = 1 := ⟨_, rfl, formed_E, formed_N⟩
set_option maxRecDepth 100000 in
set_option maxHeartbeats 400000 in
theorem formed_any (w : World) (ea : Nat → Addr) (E : Errs5 w ea) :
    Calls Tryd.prog 8 #[] w fun e w' => e = .returned (.bool true) ∧ Keeps (fun _ => False) w w' := by
  have HE := Lib.hid E
  clear E
  go_enter Tryd.func8, Tryd.ntmps8
  go_wp2_with fail
  refine (new_any 2 2 _ _ formedW ⟨by omega, .inr ⟨_, _, rfl, by simp, fun i hi => ?_⟩⟩ (by omega) (fun i _ => formed_rng i)).mono ?_
  · have : i = 0 ∨ i = 1 := by omega
    rcases this with rfl | rfl <;> simp [World.cell?_alloc_new, formedW]
  rintro e w1 ⟨rfl, hN1⟩
  obtain ⟨m, hm, hmE, hmN⟩ := formed_mem
  have hR := hN1.ram
  rw [← hm, nblk_alloc] at hR
  have HR := Lib.hid hR
  have HME := Lib.hid hmE
  have HMN := Lib.hid hmN
  clear hm hR hmE hmN
  have HK1 := Lib.hid (((Keeps.refl (fun _ => False) w).alloc _).trans hN1.keeps (fun _ _ h => h))
  clear hN1
  go_wp2_with fail
  refine (form_any _ _ _ _ _ _ 0 5 _ ea (HE.out.quiet HK1.out) HR.out (by omega)).mono ?_
  intro e w2 h
  rcases h with ⟨h, _⟩ | ⟨_, h⟩
  · exact absurd HME.out h
  rw [HMN.out] at h
  obtain ⟨iv, pv, rfl, ho, hp, hk2⟩ := h
  obtain ⟨A, cap, rfl, hI⟩ := ins_of_owns ho
  obtain ⟨A2, cap2, rfl⟩ := owns_slice hp
  have HK2 := Lib.hid (HK1.out.trans hk2 (fun _ _ h => h))
  have kb := (Keeps.refl (fun _ => False) w2).alloc (.cells #[.int .u32 0, .slice A 1 cap, .slice A2 (Fm.pages (0 : Int).toNat 1).length cap2] 30)
  have hb := blk_alloc_new w2 (.cells #[.int .u32 0, .slice A 1 cap, .slice A2 (Fm.pages (0 : Int).toNat 1).length cap2] 30)
  have HI := Lib.hid (hI.keep kb)
  have HB := Lib.hid hb
  have HK3 := Lib.hid (HK2.out.trans kb (fun _ _ h => h))
  clear hI ho hk2 hp kb hb
  generalize (Fm.pages (0 : Int).toNat 1).length = np at *
  go_wp2_with fail
  generalize w2.alloc (.cells #[.int .u32 0, .slice A 1 cap, .slice A2 np cap2] 30) = w3 at *
  generalize w2.heap.size = x at *
  obtain ⟨⟨d0, d1, d2⟩, _⟩ := cells3 HB.out
  go_wp2_with fail
  refine (len_any _ _ _ A 1 cap rfl (by omega) _).mono ?_
  rintro e w4 ⟨rfl, hk4⟩
  have HB4 := Lib.hid ((hk4.block x (Array.getElem?_eq_some_iff.1 HB.out).1 (fun h => h)).trans HB.out)
  have HI4 := Lib.hid (HI.out.keep hk4)
  have HK4 := Lib.hid (HK3.out.trans hk4 (fun _ _ h => h))
  clear d0 d1 d2 hk4
  obtain ⟨⟨d0, d1, d2⟩, _⟩ := cells3 HB4.out
  go_wp2_with fail
  refine (ends_any _ _ A 1 cap _ (by omega) (fun i => (Cd.ok_dec _).op) _ HI4.out [111, 110] (Lib.hid rfl)).mono ?_
  rintro e w5 ⟨rfl, hk5⟩
  have HK5 := Lib.hid (HK4.out.trans hk5 (fun _ _ h => h))
  clear d0 d1 d2 hk5
  go_wp2_with fail
  go_ret
  exact ⟨rfl, HK5.out⟩
end Go.Proofs.YtlbdkcnbgdmpaaaDoor

/- Joins -/
/- The walk of the law RegionJoins. -/
namespace Go.Proofs.YtlbdkcnbgdmpaaaDoor
open Go.RowKit Go.Deep
set_option linter.unusedVariables false

/-- what Form gives, its slices written out -/
theorem Formed.open_ {w w' : World} {m : Nat → Int} {pc N : Nat} {e : Ending} (h : Formed w m pc N e w') : ∃ A cap A2 n2 cap2, e = .returned (.tuple #[.agg #[.int .u32 pc, .slice A N cap, .slice A2 n2 cap2], .nilIface]) ∧ InsAt w' A N cap (nth m pc) ∧ Keeps (fun _ => False) w w' := by
  obtain ⟨iv, pv, rfl, ho, hp, hk⟩ := h
  obtain ⟨A, cap, rfl, hI⟩ := ins_of_owns ho
  obtain ⟨A2, cap2, rfl⟩ := owns_slice hp
  exact ⟨A, cap, A2, _, cap2, rfl, hI, hk⟩
theorem formE_ok {m : Nat → Int} {pc most : Int} (h : formE m pc most = 0) : 1 ≤ most ∧ most ≤ 24 ∧ pc % 4 = 0 ∧ pc < 16384 ∧ formN m pc.toNat most.toNat ≠ 0 := by
  unfold formE at h
  by_cases h1 : most < 1 ∨ 24 < most
  · rw [if_pos h1] at h; cases h
  rw [if_neg h1] at h
  by_cases h2 : pc % 4 ≠ 0
  · rw [if_pos h2] at h; cases h
  rw [if_neg h2] at h
  by_cases h3 : 16384 ≤ pc
  · rw [if_pos h3] at h; cases h
  rw [if_neg h3] at h
  by_cases h4 : formN m pc.toNat most.toNat = 0
  · rw [if_pos h4] at h; cases h
  exact ⟨by omega, by omega, by omega, by omega, h4⟩
theorem formE_zero {m : Nat → Int} {pc most : Int} (h1 : 1 ≤ most) (h2 : most ≤ 24) (h3 : pc % 4 = 0) (h4 : pc < 16384) (h5 : formN m pc.toNat most.toNat ≠ 0) : formE m pc most = 0 := by
  rw [formE, if_neg (by omega), if_neg (by omega), if_neg (by omega), if_neg h5]
theorem kdAt_add (m : Nat → Int) (pc a k : Nat) : kdAt m (pc + 4 * a) k = kdAt m pc (a + k) := by
  unfold kdAt nth
  rw [show pc + 4 * a + 4 * k = pc + 4 * (a + k) by omega]
theorem nth_add (m : Nat → Int) (pc a k : Nat) : nth m (pc + 4 * a) k = nth m pc (a + k) := by
  unfold nth
  rw [show pc + 4 * a + 4 * k = pc + 4 * (a + k) by omega]
/-- what is left of a region that was cut short begins there -/
theorem form_joins (m : Nat → Int) (pc most : Int) (h0 : 0 ≤ pc) (h : formE m pc most = 0) :
    formE m pc 24 = 0 ∧ formN m pc.toNat most.toNat ≤ formN m pc.toNat 24 ∧ formN m pc.toNat 24 ≤ 24 ∧ kdAt m pc.toNat 0 ≠ 4 ∧
      (formN m pc.toNat most.toNat < formN m pc.toNat 24 → formE m (pc + 4 * (formN m pc.toNat most.toNat : Nat)) 24 = 0 ∧ pc + 4 * (formN m pc.toNat most.toNat : Nat) < 16384 ∧
        formN m pc.toNat 24 - formN m pc.toNat most.toNat ≤ formN m (pc.toNat + 4 * formN m pc.toNat most.toNat) 24) := by
  obtain ⟨h1, h2, h3, h4, h5⟩ := formE_ok h
  obtain ⟨p, rfl⟩ := Int.eq_ofNat_of_zero_le h0
  obtain ⟨k, rfl⟩ := Int.eq_ofNat_of_zero_le (show 0 ≤ most by omega)
  simp only [Int.toNat_natCast] at *
  have hm : formN m p k ≤ formN m p 24 := Fm.go_more _ _ _ _ (by omega)
  have hle := (Fm.go_le (kdAt m p) ((16384 - p) / 4) 24 0 0).2
  refine ⟨formE_zero (by omega) (by omega) h3 h4 (by rw [Int.toNat_natCast]; show formN m p 24 ≠ 0; omega), hm, by unfold formN; omega, (Fm.go_first (kdAt m p) ((16384 - p) / 4) k (by have := h5; unfold formN at this; omega)).1, fun hlt => ?_⟩
  have hj := Fm.go_joins (kdAt m p) ((16384 - p) / 4) k 24 (by omega) hlt
  have hl := Fm.go_last (kdAt m p) ((16384 - p) / 4) 24 0 0 (Nat.zero_le _)
  generalize ha : Fm.go (kdAt m p) ((16384 - p) / 4) k 0 0 = a at *
  have ea : formN m p k = a := ha
  rw [ea] at hlt
  rw [ea]
  have hc : formN m (p + 4 * a) 24 = Fm.go (fun k => kdAt m p (a + k)) ((16384 - p) / 4 - a) 24 0 0 := by
    unfold formN
    rw [show kdAt m (p + 4 * a) = (fun k => kdAt m p (a + k)) from funext (kdAt_add m p a), show (16384 - (p + 4 * a)) / 4 = (16384 - p) / 4 - a by omega]
  have hnb : formN m p 24 = Fm.go (kdAt m p) ((16384 - p) / 4) 24 0 0 := rfl
  rw [← hc, ← hnb] at hj
  rw [← hnb] at hl
  have hla : a < (16384 - p) / 4 := Nat.lt_of_lt_of_le (show a < formN m p 24 from ea ▸ hlt) hl
  have hp2 : p + 4 * a < 16384 := by clear hj hl hlt hc hnb hm hle ha ea; omega
  have hpa : (p : Int) + 4 * (a : Nat) < 16384 := by clear hj hl hlt hc hnb hm hle ha ea; omega
  have hp3 : ((p : Int) + 4 * (a : Nat)) % 4 = 0 := by clear hj hl hlt hc hnb hm hle ha ea; omega
  refine ⟨formE_zero (by decide) (by decide) hp3 hpa ?_, hpa, hj⟩
  rw [show ((p : Int) + 4 * (a : Nat)).toNat = p + 4 * a by omega]
  show formN m (p + 4 * a) 24 ≠ 0
  clear hl hc hnb hm hle ha ea hla hp2 hpa hp3
  omega
/-- a region's box -/
theorem box3 (w : World) (a b c : Value) (T : TypeId) : (w.alloc (.cells #[a, b, c] T)).heap[w.heap.size]? = some (.cells #[a, b, c] T (0, 0)) := blk_alloc_new w (.cells #[a, b, c] T)
theorem box3_keep {w w' : World} {x : Nat} {a b c : Value} {T : TypeId} (h : w.heap[x]? = some (.cells #[a, b, c] T (0, 0))) (k : Keeps (fun _ => False) w w') : w'.heap[x]? = some (.cells #[a, b, c] T (0, 0)) :=
  (k.block x (Array.getElem?_eq_some_iff.1 h).1 (fun h => h)).trans h

theorem cells_ins : Tryd.prog.cellsOf 39 = 5 := by kernel_rfl
theorem cut_upto (A : Option Addr) (n cap k : Nat) (hk : k ≤ cap) (w : World) : (Instr.slice 27 (.slice A n cap) none (some (.int .i64 k)) none).run Tryd.prog w = .ok (.slice A k cap) w := by
  have h0 : (0 : Int) ≤ k := by omega
  have h1 : (k : Int) ≤ cap := by omega
  obtain ⟨ii, hii, hiz0, hiz1, hiz2⟩ := info_parts Tryd.info_ins
  have hA : (A.map fun x => x.add 0) = A := by cases A <;> simp [Addr.add]
  simp [Instr.slice, Instr.sliceBounds, go_sem, h0, h1]
theorem cut_from (b o n cap k : Nat) (hk : k ≤ n) (hk2 : k < cap) (w : World) : (Instr.slice 27 (.slice (some ⟨b, o, none⟩) n cap) (some (.int .i64 k)) none none).run Tryd.prog w = .ok (.slice (some ⟨b, o + k * 5, none⟩) (n - k) (cap - k)) w := by
  have h0 : (0 : Int) ≤ k := by omega
  have h1 : (k : Int) ≤ n := by omega
  have h2 : ¬ cap = k := by omega
  obtain ⟨ii, hii, hiz0, hiz1, hiz2⟩ := info_parts Tryd.info_ins
  simp [Instr.slice, Instr.sliceBounds, go_sem, h0, h1, h2]
theorem sameIns_at (A B : Option Addr) (n ca cb : Nat) (g g2 : Nat → Cd.Ins) (w wc : World) (h1 : InsAt w A n ca g) (h2 : InsAt w B n cb g2) (hg : ∀ i, i < n → g i = g2 i) (hk : Keeps (fun _ => False) w wc) :
    Calls Tryd.prog 11 #[.slice A n ca, .slice B n cb] wc fun e w' => e = .returned (.bool true) ∧ Keeps (fun _ => False) wc w' := sameIns_same A B n ca cb g g2 wc (h1.keep hk) (h2.keep hk) hg
theorem words_keep (r pb pw ph cp : Nat) (m : Nat → Int) (w wc : World) (R : RamAt w r pb pw ph cp m) (hk : Keeps (fun _ => False) w wc) :
    Calls Tryd.prog 15 #[.pointer (some ⟨r, 0, none⟩)] wc fun e w' => ∃ g, e = .returned (.slice (some ⟨g, 0, none⟩) 4096 4096) ∧ w'.rowIs g 23 4096 (fun k => .int .u32 (be m (4 * k) 4)) ∧ Keeps (fun _ => False) wc w' :=
  (words_any r pb pw ph cp m wc (R.keep hk (fun h => h) (fun h => h))).mono fun e w' ⟨he, hr, hk⟩ => ⟨_, he, hr, hk⟩
theorem new_keep (len cap : Nat) (A : Option Addr) (w wc : World) (ws m : Nat → Int) (hR : Reads w A len cap (fun i => .int .u32 (ws i))) (hc : cap ≤ 9223372036854775807) (hr : ∀ i, i < len → 0 ≤ ws i ∧ ws i < 4294967296) (hm : ramOf (min len 4096) ws = m) (hk : Keeps (fun _ => False) w wc) :
    Calls Tryd.prog 9 #[.slice A len cap] wc fun e w' => ∃ r pb pw ph cp, e = .returned (.pointer (some ⟨r, 0, none⟩)) ∧ RamAt w' r pb pw ph cp m ∧ Keeps (fun _ => False) wc w' :=
  (new_any len cap A wc ws (hR.keep hk (fun _ _ _ h => h)) hc hr).mono fun e w' ⟨he, hN⟩ => ⟨_, _, _, _, _, he, hm ▸ hN.ram, hN.keeps⟩
theorem alike_two (a b : Nat) (m : Nat → Int) (wa wb wc : World) (h1 : wa.rowIs a 23 4096 (fun k => .int .u32 (be m (4 * k) 4))) (h2 : wb.rowIs b 23 4096 (fun k => .int .u32 (be m (4 * k) 4))) (k1 : Keeps (fun _ => False) wa wc) (k2 : Keeps (fun _ => False) wb wc) :
    Calls Tryd.prog 14 #[.slice (some ⟨a, 0, none⟩) 4096 4096, .slice (some ⟨b, 0, none⟩) 4096 4096] wc fun e w' => e = .returned (.int .i64 1) ∧ Keeps (fun _ => False) wc w' :=
  alike_same a b 4096 4096 4096 (fun k => be m (4 * k) 4) wc (Nat.le_refl _) (by omega) (by omega) (fun i hi => (RowTo.of_row (k1.row h1 (fun h => h))).cell hi) (fun i hi => (RowTo.of_row (k2.row h2 (fun h => h))).cell hi)

set_option maxRecDepth 100000 in
set_option maxHeartbeats 4000000 in
theorem regionJoins_any (len cap : Nat) (A : Option Addr) (pc most : Int) (w : World) (ws : Nat → Int) (ea : Nat → Addr) (E : Errs5 w ea) (hR : Reads w A len cap (fun i => .int .u32 (ws i))) (hc : cap ≤ 9223372036854775807) (hr : ∀ i, i < len → 0 ≤ ws i ∧ ws i < 4294967296) (hpc : 0 ≤ pc ∧ pc < 4294967296) :
    Calls Tryd.prog 3 #[.slice A len cap, .int .u32 pc, .int .i64 most] w fun e w' => e = .returned (.bool true) ∧ Keeps (fun _ => False) w w' := by
  have hlc := hR.1
  by_cases h5 : 5000 < len
  · go_enter Tryd.func3, Tryd.ntmps3
    go_wp2_with fail
    refine (formed_any _ ea E).mono ?_
    rintro e w1 ⟨rfl, hK1⟩
    clear E hR hr
    go_wp2_with fail
    go_ret
    exact ⟨rfl, hK1⟩
  by_cases h6 : most < 1
  · go_enter Tryd.func3, Tryd.ntmps3
    go_wp2_with fail
    refine (formed_any _ ea E).mono ?_
    rintro e w1 ⟨rfl, hK1⟩
    clear E hR hr
    go_wp2_with fail
    go_ret
    exact ⟨rfl, hK1⟩
  by_cases h7 : 24 ≤ most
  · go_enter Tryd.func3, Tryd.ntmps3
    go_wp2_with fail
    refine (formed_any _ ea E).mono ?_
    rintro e w1 ⟨rfl, hK1⟩
    clear E hR hr
    go_wp2_with fail
    go_ret
    exact ⟨rfl, hK1⟩
  have HE := Lib.hid E
  have HR := Lib.hid hR
  have HX := Lib.hid hr
  clear E hR hr
  go_enter Tryd.func3, Tryd.ntmps3
  go_wp2_with fail
  refine (formed_any _ ea HE.out).mono ?_
  rintro e w1 ⟨rfl, hK1⟩
  have HK1 := Lib.hid hK1
  clear hK1
  go_wp2_with fail
  refine (new_any len cap A _ ws (HR.out.keep HK1.out (fun _ _ _ h => h)) hc HX.out).mono ?_
  rintro e w2 ⟨rfl, hN⟩
  have hRm := hN.ram
  have HK2 := Lib.hid (HK1.out.trans hN.keeps (fun _ _ h => h))
  have hwl := hN.size
  clear hN
  generalize hmm : ramOf (min len 4096) ws = m at *
  have HMM := Lib.hid hmm
  generalize w1.heap.size + 3 = r at *
  generalize w1.heap.size + 2 = ph at *
  generalize w1.heap.size + 1 = pw at *
  generalize w1.heap.size = pb at *
  have HM := Lib.hid hRm
  clear hRm hmm hwl
  go_wp2_with fail
  refine (form_any r pb pw ph _ m pc most _ ea (HE.out.quiet HK2.out) HM.out hpc).mono ?_
  intro e w3 hF
  rcases hF with ⟨hne, rfl, hk3⟩ | ⟨hz, hF⟩
  · have hw3 := HK2.out.trans hk3 (fun _ _ h => h)
    have ka := (Keeps.refl (fun _ => False) w3).alloc (.cells #[.int .u32 0, .slice none 0 0, .slice none 0 0] 30)
    have HK3 := Lib.hid (hw3.trans ka (fun _ _ h => h))
    have HM3 := Lib.hid ((HM.out.keep hk3 (fun h => h) (fun h => h)).keep ka (fun h => h) (fun h => h))
    have HBA := Lib.hid (box3 w3 (.int .u32 0) (.slice none 0 0) (.slice none 0 0) 30)
    clear hw3 ka hk3 hne
    unfold noRegion errV
    generalize ea (formE m pc most) = ad at *
    go_wp2_with fail
    generalize w3.alloc (.cells #[.int .u32 0, .slice none 0 0, .slice none 0 0] 30) = w4 at *
    generalize w3.heap.size = xa at *
    refine (form_any r pb pw ph _ m pc 24 _ ea (HE.out.quiet HK3.out) HM3.out hpc).mono ?_
    intro e w5 hF
    rcases hF with ⟨_, rfl, hk5⟩ | ⟨_, hF⟩
    · have HBA5 := Lib.hid (box3_keep HBA.out (hk5.alloc (.cells #[.int .u32 0, .slice none 0 0, .slice none 0 0] 30)))
      have HK5 := Lib.hid (HK3.out.trans (hk5.alloc (.cells #[.int .u32 0, .slice none 0 0, .slice none 0 0] 30)) (fun _ _ h => h))
      obtain ⟨⟨a0, a1, a2⟩, _⟩ := cells3 HBA5.out
      clear hk5
      unfold noRegion errV
      generalize ea (formE m pc 24) = ad2 at *
      go_wp2_with fail
      go_ret
      exact ⟨rfl, HK5.out⟩
    · rw [show formN m pc.toNat (24 : Int).toNat = formN m pc.toNat 24 from rfl] at hF
      generalize formN m pc.toNat 24 = nn at *
      have HPC := Lib.hid (show (pc.toNat : Int) = pc by omega)
      obtain ⟨B1, cb1, B2, nb2, cb2, rfl, _, hk5⟩ := hF.open_
      rw [HPC.out]
      have HBA5 := Lib.hid (box3_keep HBA.out (hk5.alloc (.cells #[.int .u32 pc, .slice B1 nn cb1, .slice B2 nb2 cb2] 30)))
      have HK5 := Lib.hid (HK3.out.trans (hk5.alloc (.cells #[.int .u32 pc, .slice B1 nn cb1, .slice B2 nb2 cb2] 30)) (fun _ _ h => h))
      obtain ⟨⟨a0, a1, a2⟩, _⟩ := cells3 HBA5.out
      clear hk5 hF
      go_wp2_with fail
      go_ret
      exact ⟨rfl, HK5.out⟩
  · obtain ⟨j1, j2, j3, j4, j5⟩ := form_joins m pc most hpc.1 hz
    have hna0 := (formE_ok hz).2.2.2.2
    have HJ5 := Lib.hid j5
    have HJ4 := Lib.hid j4
    have HJ1 := Lib.hid j1
    obtain ⟨A1, ca1, A2, na2, ca2, rfl, hIa, hk3⟩ := hF.open_
    clear j5 j4 j1 hz hF
    generalize hna : formN m pc.toNat most.toNat = na at *
    generalize hnb : formN m pc.toNat 24 = nb at *
    have HNB := Lib.hid hnb
    have HPC := Lib.hid (show (pc.toNat : Int) = pc by omega)
    rw [HPC.out]
    have ka := (Keeps.refl (fun _ => False) w3).alloc (.cells #[.int .u32 pc, .slice A1 na ca1, .slice A2 na2 ca2] 30)
    have HK3 := Lib.hid ((HK2.out.trans hk3 (fun _ _ h => h)).trans ka (fun _ _ h => h))
    have HM3 := Lib.hid ((HM.out.keep hk3 (fun h => h) (fun h => h)).keep ka (fun h => h) (fun h => h))
    have HBA := Lib.hid (box3 w3 (.int .u32 pc) (.slice A1 na ca1) (.slice A2 na2 ca2) 30)
    have HIA := Lib.hid (hIa.keep ka)
    clear ka hk3 hna hnb hIa
    go_wp2_with fail
    generalize w3.alloc (.cells #[.int .u32 pc, .slice A1 na ca1, .slice A2 na2 ca2] 30) = w4 at *
    generalize w3.heap.size = xa at *
    refine (form_any r pb pw ph _ m pc 24 _ ea (HE.out.quiet HK3.out) HM3.out hpc).mono ?_
    intro e w5 hF
    rcases hF with ⟨h, _⟩ | ⟨_, hF⟩
    · exact absurd HJ1.out h
    rw [show formN m pc.toNat (24 : Int).toNat = nb from HNB.out] at hF
    obtain ⟨B1, cb1, B2, nb2, cb2, rfl, hIb, hk5⟩ := hF.open_
    rw [HPC.out]
    have kb := (Keeps.refl (fun _ => False) w5).alloc (.cells #[.int .u32 pc, .slice B1 nb cb1, .slice B2 nb2 cb2] 30)
    have hkb := hk5.trans kb (fun _ _ h => h)
    have HK5 := Lib.hid (HK3.out.trans hkb (fun _ _ h => h))
    have HM5 := Lib.hid (HM3.out.keep hkb (fun h => h) (fun h => h))
    have HBA5 := Lib.hid (box3_keep HBA.out hkb)
    have HIA5 := Lib.hid (HIA.out.keep hkb)
    have HBB := Lib.hid (box3 w5 (.int .u32 pc) (.slice B1 nb cb1) (.slice B2 nb2 cb2) 30)
    have HIB := Lib.hid (hIb.keep kb)
    clear hF hIb hk5 kb hkb
    go_upto_region 9 with fail
    generalize w5.alloc (.cells #[.int .u32 pc, .slice B1 nb cb1, .slice B2 nb2 cb2] 30) = w6 at *
    generalize w5.heap.size = xb at *
    obtain ⟨⟨a0, a1, a2⟩, _⟩ := cells3 HBA5.out
    obtain ⟨⟨b0, b1, b2⟩, _⟩ := cells3 HBB.out
    have hnb24 : nb ≤ 24 := j3
    by_cases hlt : na < nb
    · obtain ⟨q1, q2, q3⟩ := HJ5.out hlt
      obtain ⟨k, rfl⟩ : ∃ k, nb = na + k := ⟨nb - na, by omega⟩
      have hk0 : 0 < k := by omega
      go_wp2_with fail
      refine (len_any _ _ _ A1 na ca1 rfl (by omega) _).mono ?_
      rintro e w7 ⟨rfl, hk7⟩
      have HK7 := Lib.hid (HK5.out.trans hk7 (fun _ _ h => h))
      have HM7 := Lib.hid (HM5.out.keep hk7 (fun h => h) (fun h => h))
      have HBA7 := Lib.hid (box3_keep HBA5.out hk7)
      have HBB7 := Lib.hid (box3_keep HBB.out hk7)
      have HIA7 := Lib.hid (HIA5.out.keep hk7)
      have HIB7 := Lib.hid (HIB.out.keep hk7)
      have HW1 := Lib.hid (show IntKind.u32.wrap (pc + IntKind.u32.wrap (4 * (na : Int))) = pc + 4 * (na : Nat) by rw [IntKind.wrap_u32', IntKind.wrap_u32']; omega)
      clear hk7 a0 a1 a2 b0 b1 b2
      go_wp2_with fail
      try rw [HW1.out]
      refine (form_any r pb pw ph _ m (pc + 4 * (na : Nat)) 24 _ ea (HE.out.quiet HK7.out) HM7.out (by omega)).mono ?_
      intro e w8 hF
      rcases hF with ⟨h, _⟩ | ⟨_, hF⟩
      · exact absurd q1 h
      have htn : (pc + 4 * (na : Nat)).toNat = pc.toNat + 4 * na := by omega
      rw [htn, show formN m (pc.toNat + 4 * na) (24 : Int).toNat = formN m (pc.toNat + 4 * na) 24 from rfl] at hF
      have hnc24 : formN m (pc.toNat + 4 * na) 24 ≤ 24 := by have := (Fm.go_le (kdAt m (pc.toNat + 4 * na)) ((16384 - (pc.toNat + 4 * na)) / 4) 24 0 0).2; unfold formN; omega
      generalize formN m (pc.toNat + 4 * na) 24 = nc at *
      obtain ⟨C1, cc1, C2, nc2, cc2, rfl, hIc, hk8⟩ := hF.open_
      have HPC2 := Lib.hid (show ((pc.toNat + 4 * na : Nat) : Int) = pc + 4 * na by omega)
      rw [HPC2.out]
      have kc := (Keeps.refl (fun _ => False) w8).alloc (.cells #[.int .u32 (pc + 4 * na), .slice C1 nc cc1, .slice C2 nc2 cc2] 30)
      have hkc := hk8.trans kc (fun _ _ h => h)
      have HK8 := Lib.hid (HK7.out.trans hkc (fun _ _ h => h))
      have HM8 := Lib.hid (HM7.out.keep hkc (fun h => h) (fun h => h))
      have HBA8 := Lib.hid (box3_keep HBA7.out hkc)
      have HBB8 := Lib.hid (box3_keep HBB7.out hkc)
      have HIA8 := Lib.hid (HIA7.out.keep hkc)
      have HIB8 := Lib.hid (HIB7.out.keep hkc)
      have HBC := Lib.hid (box3 w8 (.int .u32 (pc + 4 * na)) (.slice C1 nc cc1) (.slice C2 nc2 cc2) 30)
      have HIC := Lib.hid (hIc.keep kc)
      clear hF hIc hk8 kc hkc htn
      go_upto_region 14 with fail
      generalize w8.alloc (.cells #[.int .u32 (pc + 4 * na), .slice C1 nc cc1, .slice C2 nc2 cc2] 30) = w9 at *
      generalize w8.heap.size = xc at *
      obtain ⟨⟨a0, a1, a2⟩, _⟩ := cells3 HBA8.out
      obtain ⟨⟨b0, b1, b2⟩, _⟩ := cells3 HBB8.out
      obtain ⟨⟨d0, d1, d2⟩, _⟩ := cells3 HBC.out
      go_upto_region 16 with fail
      have hkc : k ≤ nc := by omega
      obtain ⟨gc, oc, rfl, HIC2⟩ : ∃ gc oc, C1 = some ⟨gc, oc, none⟩ ∧ Hid (InsAt w9 (some ⟨gc, oc, none⟩) k cc1 (nth m (pc.toNat + 4 * na))) := by
        obtain ⟨gc, oc, e, _⟩ := HIC.out.from_ 0 (by omega)
        exact ⟨gc, oc, e, Lib.hid (e ▸ HIC.out.upto k hkc)⟩
      obtain ⟨gb, ob, rfl, hIB2⟩ := HIB8.out.from_ na (by omega)
      have HIB2 := Lib.hid hIB2
      obtain ⟨ga, oa, rfl, hca⟩ : ∃ ga oa, A1 = some ⟨ga, oa, none⟩ ∧ w9.cell? ⟨ga, oa, none⟩ = some (.int .i64 (nth m pc.toNat 0).op) := by
        obtain ⟨_, _, h3 | ⟨b, o, h3, h4⟩⟩ := HIA8.out
        · omega
        · exact ⟨b, o, h3, h4 0 (by omega) 0 _ rfl⟩
      have hop0 : (nth m pc.toNat 0).op < 54 := (Cd.ok_dec _).op
      obtain ⟨ks, t2, hkind⟩ : ∃ ks : ByteArray, (ks.toList == [116, 114, 97, 112]) = false ∧ ∀ wc, Calls Tryd.prog 13 #[.int .i64 (nth m pc.toNat 0).op] wc fun e w' => e = .returned (.string ks) ∧ Keeps (fun _ => False) wc w' := by
        refine ⟨_, ?_, Kind_any _ hop0⟩
        rw [(kd_test _ (kd_lt6 _ hop0)).2.2]
        simp only [decide_eq_false_iff_not]
        exact HJ4.out
      have HKIND := Lib.hid hkind
      clear hkind
      have hcb := HIB8.out.1
      have hcb2 := HIB8.out.2.1
      have hcc := HIC2.out.1
      have hcc2 := HIC2.out.2.1
      generalize (nth m pc.toNat 0).op = op0 at *
      have v1 : IntKind.i64.wrap ((na : Int) + k - na) = k := by rw [IntKind.wrap_i64]; omega
      have v2 : (na : Int) + k - na = k := by omega
      have v3 : (0 : Int) ≤ k := by omega
      have v4 : (k : Int) ≤ cc1 := by omega
      have v5 : (0 : Int) ≤ na := by omega
      have v6 : (na : Int) ≤ na + k := by omega
      have v7 : (na : Int) + k ≤ cb1 := by omega
      have v8 : ¬ cb1 = na := by omega
      have v9 : ¬ na = cb1 := by omega
      have v10 : ¬ cc1 = 0 := by omega
      have v11 : ¬ 0 = cc1 := by omega
      have v12 : k ≤ cc1 := by omega
      have v13 : na + k - na = k := by omega
      have v14 : ((cc1 : Nat) : Int) ≤ 9223372036854775807 := by omega
      have v15 : ((cb1 : Nat) : Int) ≤ 9223372036854775807 := by omega
      have v16 : (na : Int) ≤ cb1 := by omega
      have v18 : (0 : Int) < na := by omega
      have v19 : 0 < na := by omega
      have v17 : IntKind.i64.wrap (k : Int) = k := by rw [IntKind.wrap_i64]; omega
      have hs1 := cut_upto (some ⟨gc, oc, none⟩) nc cc1 k v12
      have hs2 := cut_from gb ob (na + k) cb1 na (by omega) (by omega)
      rw [v13] at hs2
      have HIB2k : Hid (InsAt w9 (some ⟨gb, ob + na * 5, none⟩) k (cb1 - na) (fun i => nth m pc.toNat (na + i))) := Lib.hid (by have := HIB2.out; rwa [Nat.add_sub_cancel_left] at this)
      clear hIB2
      go_region_held3 (fun w' => Keeps (fun _ => False) w9 w' ∧ w'.cell? ⟨xa, 0 + 1, none⟩ = some (.slice (some ⟨ga, oa, none⟩) na ca1) ∧ w'.cell? ⟨xb, 0 + 1, none⟩ = some (.slice (some ⟨gb, ob, none⟩) (na + k) cb1) ∧ w'.cell? ⟨xc, 0 + 1, none⟩ = some (.slice (some ⟨gc, oc, none⟩) nc cc1) ∧ w'.cell? ⟨ga, oa, none⟩ = some (.int .i64 op0))
        (first | (refine ⟨?_, ?_, ?_, ?_, ?_⟩ <;> first | ((repeat (first | exact Keeps.refl _ _ | assumption | apply Keeps.drew | apply Keeps.drewN | apply Keeps.alloc | (refine Keeps.trans ?_ (by assumption) (fun _ _ h => h)))); done) | (refine Keeps.cell' (S := fun _ => False) (w := w9) ?_ (by assumption) (fun f => f); (repeat (first | exact Keeps.refl _ _ | assumption | apply Keeps.drew | apply Keeps.drewN | apply Keeps.alloc | (refine Keeps.trans ?_ (by assumption) (fun _ _ h => h)))); done)) | (trace_state; fail))
        (first
          | (go_at_call 11; refine (sameIns_at _ _ k cc1 (cb1 - na) _ _ w9 _ HIC2.out (HIB2k.out) ?_ ?_).mono ?_; (intro i hi; exact nth_add m pc.toNat na i); (repeat (first | exact Keeps.refl _ _ | assumption | apply Keeps.drew | apply Keeps.drewN | apply Keeps.alloc | (refine Keeps.trans ?_ (by assumption) (fun _ _ h => h)))); rintro e wq ⟨rfl, hkq⟩)
          | (go_at_call 13; refine (HKIND.out _).mono ?_; rintro e wk ⟨rfl, hkk⟩)
          | (go_at_call 15; with_reducible refine (words_keep r pb pw ph _ m w9 _ HM8.out ?_).mono ?_; (repeat (first | exact Keeps.refl _ _ | assumption | apply Keeps.drew | apply Keeps.drewN | apply Keeps.alloc | (refine Keeps.trans ?_ (by assumption) (fun _ _ h => h)))); rintro e wa ⟨g1, rfl, hr1, hkr1⟩)
          | (go_at_call 9; refine (new_keep len cap A w9 _ ws m (HR.out.keep HK8.out (fun _ _ _ h => h)) hc HX.out HMM.out ?_).mono ?_; (repeat (first | exact Keeps.refl _ _ | assumption | apply Keeps.drew | apply Keeps.drewN | apply Keeps.alloc | (refine Keeps.trans ?_ (by assumption) (fun _ _ h => h)))); rintro e wn ⟨r2, p2, q2, s2, c2, rfl, hR2, hkn⟩)
          | (go_at_call 15; with_reducible refine (words_keep r2 p2 q2 s2 c2 m wn _ hR2 ?_).mono ?_; (repeat (first | exact Keeps.refl _ _ | assumption | apply Keeps.drew | apply Keeps.drewN | apply Keeps.alloc | (refine Keeps.trans ?_ (by assumption) (fun _ _ h => h)))); rintro e wb ⟨g2, rfl, hr2, hkr2⟩)
          | (go_at_call 14; refine (alike_two g1 g2 m wa wb _ hr1 hr2 ?_ ?_).mono ?_; (repeat (first | exact Keeps.refl _ _ | assumption | apply Keeps.drew | apply Keeps.drewN | apply Keeps.alloc | (refine Keeps.trans ?_ (by assumption) (fun _ _ h => h)))); (repeat (first | exact Keeps.refl _ _ | assumption | apply Keeps.drew | apply Keeps.drewN | apply Keeps.alloc | (refine Keeps.trans ?_ (by assumption) (fun _ _ h => h)))); rintro e wz ⟨rfl, hkz⟩))
      rename_i hh
      have hK := hh.1
      clear hh
      go_wp2
      go_ret
      exact ⟨rfl, HK8.out.trans hK (fun _ _ h => h)⟩
    · obtain rfl : nb = na := by omega
      go_wp2_with fail
      refine (sameIns_same A1 B1 _ ca1 cb1 _ _ _ HIA5.out HIB.out (fun i _ => rfl)).mono ?_
      rintro e w7 ⟨rfl, hk7⟩
      have HK7 := Lib.hid (HK5.out.trans hk7 (fun _ _ h => h))
      clear hk7 a0 a1 a2 b0 b1 b2
      go_wp2_with fail
      go_ret
      exact ⟨rfl, HK7.out⟩
end Go.Proofs.YtlbdkcnbgdmpaaaDoor

/- Forms -/
/- The walk of the law RegionForms. -/
namespace Go.Proofs.YtlbdkcnbgdmpaaaDoor
open Go.RowKit Go.Deep
set_option linter.unusedVariables false

/-- how many, where it is one -/
def uN (m : Nat → Int) (pc most : Int) : Nat := if formE m pc most = 0 then formN m pc.toNat most.toNat else 0
def uK (m : Nat → Int) (pc most : Int) : Nat := if formE m pc most = 0 then (Fm.pages pc.toNat (formN m pc.toNat most.toNat)).length else 0
def uF (m : Nat → Int) (pc most : Int) (i : Nat) : Int := (((Fm.pages pc.toNat (formN m pc.toNat most.toNat)).getD i 0 : Nat) : Int)
theorem uN_le (m : Nat → Int) (pc most : Int) : uN m pc most ≤ 24 := by
  unfold uN
  split
  · rename_i h
    obtain ⟨h1, h2, _⟩ := formE_ok h
    have := Fm.go_le (kdAt m pc.toNat) ((16384 - pc.toNat) / 4) most.toNat 0 0
    unfold formN
    omega
  · omega
theorem InsAt.none (w : World) (g : Nat → Cd.Ins) : InsAt w none 0 0 g := ⟨by omega, by omega, .inl rfl⟩
theorem IntsAt.none (w : World) (f : Nat → Int) : IntsAt w none 0 0 f := ⟨by omega, by omega, .inl rfl⟩
theorem form_uni (r pb pw ph cp : Nat) (m : Nat → Int) (pc most : Int) (w : World) (ea : Nat → Addr) (E : Errs5 w ea) (R : RamAt w r pb pw ph cp m) (hpc : 0 ≤ pc ∧ pc < 4294967296) :
    Calls Tryd.prog 10 #[.pointer (some ⟨r, 0, none⟩), .int .u32 pc, .int .i64 most] w fun e w' => ∃ A cap A2 cap2, e = .returned (.tuple #[.agg #[.int .u32 (if formE m pc most = 0 then pc else 0), .slice A (uN m pc most) cap, .slice A2 (uK m pc most) cap2], errOf ea (formE m pc most)]) ∧
      InsAt w' A (uN m pc most) cap (nth m pc.toNat) ∧ IntsAt w' A2 (uK m pc most) cap2 (uF m pc most) ∧ Keeps (fun _ => False) w w' := by
  refine (form_any r pb pw ph cp m pc most w ea E R hpc).mono fun e w' h => ?_
  unfold uN uK
  rcases h with ⟨hc, he, hk⟩ | ⟨hc, iv, pv, he, ho, hp, hk⟩
  · rw [if_neg hc, if_neg hc, if_neg hc, errOf_ne hc]
    exact ⟨none, 0, none, 0, he, InsAt.none _ _, IntsAt.none _ _, hk⟩
  · rw [if_pos hc, if_pos hc, if_pos hc, hc]
    obtain ⟨A, cap, rfl, hI⟩ := ins_of_owns ho
    obtain ⟨A2, cap2, rfl, hJ⟩ := ints_of_pages hp
    rw [show (pc.toNat : Int) = pc by omega] at he
    exact ⟨A, cap, A2, cap2, he, hI, hJ, hk⟩
theorem formOf_uni (q wb tb hb : Nat) (m : Nat → Int) (wt ht : Nat → Bool) (pc most : Int) (w : World) (R : RefAt w q wb tb hb m wt ht) (hpc : 0 ≤ pc ∧ pc < 4294967296) :
    Calls Tryd.prog 17 #[.pointer (some ⟨q, 0, none⟩), .int .u32 pc, .int .i64 most] w fun e w' => ∃ A cap A2 cap2, e = .returned (.tuple #[.agg #[.int .u32 (if formE m pc most = 0 then pc else 0), .slice A (uN m pc most) cap, .slice A2 (uK m pc most) cap2], .int .i64 (formE m pc most)]) ∧
      InsAt w' A (uN m pc most) cap (nth m pc.toNat) ∧ IntsAt w' A2 (uK m pc most) cap2 (uF m pc most) ∧ Keeps (fun _ => False) w w' := by
  refine (formOf_any q wb tb hb m wt ht pc most w R hpc).mono fun e w' h => ?_
  unfold uN uK
  rcases h with ⟨hc, he, hk⟩ | ⟨hc, iv, pv, he, ho, hp, hk⟩
  · rw [if_neg hc, if_neg hc, if_neg hc]
    exact ⟨none, 0, none, 0, he, InsAt.none _ _, IntsAt.none _ _, hk⟩
  · rw [if_pos hc, if_pos hc, if_pos hc, hc]
    obtain ⟨A, cap, rfl, hI⟩ := ins_of_owns ho
    obtain ⟨A2, cap2, rfl, hJ⟩ := ints_of_pages hp
    exact ⟨A, cap, A2, cap2, he, hI, hJ, hk⟩

set_option maxRecDepth 100000 in
set_option maxHeartbeats 4000000 in
theorem regionForms_any (len cap : Nat) (A : Option Addr) (pc most : Int) (w : World) (ws : Nat → Int) (ea : Nat → Addr) (E : ErrsAll w ea) (hR : Reads w A len cap (fun i => .int .u32 (ws i))) (hc : cap ≤ 9223372036854775807) (hr : ∀ i, i < len → 0 ≤ ws i ∧ ws i < 4294967296) (hpc : 0 ≤ pc ∧ pc < 4294967296) :
    Calls Tryd.prog 4 #[.slice A len cap, .int .u32 pc, .int .i64 most] w fun e w' => e = .returned (.bool true) ∧ Keeps (fun _ => False) w w' := by
  have hlc := hR.1
  by_cases h5 : 5000 < len
  · go_enter Tryd.func4, Tryd.ntmps4
    go_wp2_with fail
    refine (formed_any _ ea E.five).mono ?_
    rintro e w1 ⟨rfl, hK1⟩
    clear E hR hr
    go_wp2_with fail
    go_ret
    exact ⟨rfl, hK1⟩
  have HE := Lib.hid E
  have HR := Lib.hid hR
  have HX := Lib.hid hr
  clear E hR hr
  go_enter Tryd.func4, Tryd.ntmps4
  go_wp2_with fail
  refine (formed_any _ ea HE.out.five).mono ?_
  rintro e w1 ⟨rfl, hK1⟩
  have HK1 := Lib.hid hK1
  clear hK1
  go_wp2_with fail
  refine (form_nil pc most _ ea (HE.out.quiet HK1.out).five).mono ?_
  rintro e w2 ⟨rfl, hk2⟩
  have ka := (Keeps.refl (fun _ => False) w2).alloc (.cells #[.int .u32 0, .slice none 0 0, .slice none 0 0] 30)
  have HK2 := Lib.hid ((HK1.out.trans hk2 (fun _ _ h => h)).trans ka (fun _ _ h => h))
  have HBA := Lib.hid (box3 w2 (.int .u32 0) (.slice none 0 0) (.slice none 0 0) 30)
  clear ka hk2
  unfold noRegion
  have he3 : errV ea 3 = errOf ea 3 := (errOf_ne (by decide)).symm
  rw [he3]
  have HC3 := Lib.hid (fun (w : World) (E : ErrsAll w ea) => coded_any 3 (by decide) w ea E)
  generalize errOf ea 3 = er3 at *
  clear he3
  go_wp2_with fail
  generalize w2.alloc (.cells #[.int .u32 0, .slice none 0 0, .slice none 0 0] 30) = w3 at *
  generalize w2.heap.size = xa at *
  refine (HC3.out _ (HE.out.quiet HK2.out)).mono ?_
  rintro e w4 ⟨rfl, hk4⟩
  have HBA4 := Lib.hid (box3_keep HBA.out hk4)
  have HK4 := Lib.hid (HK2.out.trans hk4 (fun _ _ h => h))
  obtain ⟨⟨a0, a1, a2⟩, _⟩ := cells3 HBA4.out
  clear hk4
  go_wp2_with fail
  clear a0 a1 a2
  refine (new_any len cap A _ ws (HR.out.keep HK4.out (fun _ _ _ h => h)) hc HX.out).mono ?_
  rintro e w5 ⟨rfl, hN⟩
  have hRm := hN.ram
  have HK5 := Lib.hid (HK4.out.trans hN.keeps (fun _ _ h => h))
  clear hN HBA HBA4 HK2 HC3
  obtain ⟨m, hmm⟩ : ∃ m, ramOf (min len 4096) ws = m := ⟨_, rfl⟩
  rw [hmm] at hRm
  have HMM := Lib.hid hmm
  have HM := Lib.hid hRm
  clear hmm hRm
  generalize w4.heap.size + 3 = r at *
  generalize w4.heap.size + 2 = ph at *
  generalize w4.heap.size + 1 = pw at *
  generalize w4.heap.size = pb at *
  go_wp2_with fail
  refine (form_uni r pb pw ph _ m pc most _ ea (HE.out.quiet HK5.out).five HM.out hpc).mono ?_
  rintro e w6 ⟨A1, c1, A2, c2, rfl, hI1, hJ1, hk6⟩
  have HFU := Lib.hid (fun (q wb tb hb : Nat) (w : World) (R : RefAt w q wb tb hb m (fun _ => false) (fun _ => false)) => formOf_uni q wb tb hb m _ _ pc most w R hpc)
  have HCO := Lib.hid (fun (w : World) (E : ErrsAll w ea) => coded_any (formE m pc most) (formE_le m pc most) w ea E)
  have hn24 := uN_le m pc most
  have hop : ∀ i, (nth m pc.toNat i).op < 54 := fun i => (Cd.ok_dec _).op
  have HOP := Lib.hid hop
  have HI1 := Lib.hid hI1
  have HJ1 := Lib.hid hJ1
  clear hI1 hJ1 hop
  generalize errOf ea (formE m pc most) = er at *
  generalize (if formE m pc most = 0 then pc else 0) = P at *
  generalize formE m pc most = ec at *
  generalize uN m pc most = n at *
  generalize uK m pc most = kk at *
  generalize uF m pc most = uf at *
  generalize nth m pc.toNat = g at *
  have ka := (Keeps.refl (fun _ => False) w6).alloc (.cells #[.int .u32 P, .slice A1 n c1, .slice A2 kk c2] 30)
  have HK6 := Lib.hid ((HK5.out.trans hk6 (fun _ _ h => h)).trans ka (fun _ _ h => h))
  have HI6 := Lib.hid (HI1.out.keep ka)
  have HJ6 := Lib.hid (HJ1.out.keep ka)
  have HB6 := Lib.hid (box3 w6 (.int .u32 P) (.slice A1 n c1) (.slice A2 kk c2) 30)
  clear ka hk6 HI1 HJ1
  go_wp2_with fail
  generalize w6.alloc (.cells #[.int .u32 P, .slice A1 n c1, .slice A2 kk c2] 30) = w7 at *
  generalize w6.heap.size = xb at *
  refine (refNew_any len cap A w7 ws (HR.out.keep HK6.out (fun _ _ _ h => h)) hc HX.out).mono ?_
  rintro e w8 ⟨q, wb, tb, hb, rfl, hRf, _, hk8⟩
  rw [HMM.out] at hRf
  have HRF := Lib.hid hRf
  have HK8 := Lib.hid (HK6.out.trans hk8 (fun _ _ h => h))
  have HI8 := Lib.hid (HI6.out.keep hk8)
  have HJ8 := Lib.hid (HJ6.out.keep hk8)
  have HB8 := Lib.hid (box3_keep HB6.out hk8)
  clear hRf hk8 HI6 HJ6 HB6
  go_wp2_with fail
  refine (HFU.out q wb tb hb w8 HRF.out).mono ?_
  rintro e w9 ⟨B1, d1, B2, d2, rfl, hI2, hJ2, hk9⟩
  have ka := hk9.alloc (.cells #[.int .u32 P, .slice B1 n d1, .slice B2 kk d2] 44)
  have kb := (Keeps.refl (fun _ => False) w9).alloc (.cells #[.int .u32 P, .slice B1 n d1, .slice B2 kk d2] 44)
  have HK9 := Lib.hid (HK8.out.trans ka (fun _ _ h => h))
  have HI9 := Lib.hid (HI8.out.keep ka)
  have HJ9 := Lib.hid (HJ8.out.keep ka)
  have HB9 := Lib.hid (box3_keep HB8.out ka)
  have HI29 := Lib.hid (hI2.keep kb)
  have HJ29 := Lib.hid (hJ2.keep kb)
  have HC9 := Lib.hid (box3 w9 (.int .u32 P) (.slice B1 n d1) (.slice B2 kk d2) 44)
  clear ka kb hk9 hI2 hJ2 HI8 HJ8 HB8 HRF HFU
  go_wp2_with fail
  generalize w9.alloc (.cells #[.int .u32 P, .slice B1 n d1, .slice B2 kk d2] 44) = w10 at *
  generalize w9.heap.size = xc at *
  refine (HCO.out _ (HE.out.quiet HK9.out)).mono ?_
  rintro e w11 ⟨rfl, hk11⟩
  have HK11 := Lib.hid hk11
  clear hk11
  obtain ⟨⟨a0, a1, a2⟩, _⟩ := cells3 (box3_keep HB9.out HK11.out)
  obtain ⟨⟨b0, b1, b2⟩, _⟩ := cells3 (box3_keep HC9.out HK11.out)
  go_wp2_with fail
  refine (sameIns_same A1 B1 n c1 d1 g g _ (HI9.out.keep HK11.out) (HI29.out.keep HK11.out) (fun _ _ => rfl)).mono ?_
  rintro e w12 ⟨rfl, hk12⟩
  have HK12 := Lib.hid (HK11.out.trans hk12 (fun _ _ h => h))
  clear hk12 a0 a1 a2 b0 b1 b2
  obtain ⟨⟨a0, a1, a2⟩, _⟩ := cells3 (box3_keep HB9.out HK12.out)
  obtain ⟨⟨b0, b1, b2⟩, _⟩ := cells3 (box3_keep HC9.out HK12.out)
  go_wp2_with fail
  refine (sameInts_same A2 B2 kk c2 d2 uf _ (HJ9.out.keep HK12.out) (HJ29.out.keep HK12.out)).mono ?_
  rintro e w13 ⟨rfl, hk13⟩
  have HK13 := Lib.hid (HK12.out.trans hk13 (fun _ _ h => h))
  clear hk13 a0 a1 a2 b0 b1 b2
  obtain ⟨⟨a0, a1, a2⟩, _⟩ := cells3 (box3_keep HB9.out HK13.out)
  obtain ⟨⟨b0, b1, b2⟩, _⟩ := cells3 (box3_keep HC9.out HK13.out)
  by_cases h1 : 1 < n
  · obtain ⟨bb, oo, rfl, hcl⟩ : ∃ b o, B1 = some ⟨b, o, none⟩ ∧ w13.cell? ⟨b, o + (n - 2) * 5, none⟩ = some (.int .i64 (g (n - 2)).op) := by
      obtain ⟨_, _, h | ⟨b, o, h3, h4⟩⟩ := HI29.out.keep HK13.out
      · omega
      · exact ⟨b, o, h3, h4 (n - 2) (by omega) 0 _ rfl⟩
    have hop2 := HOP.out (n - 2)
    have HT := Lib.hid (show endsS g n = if Cd.kd (g (n - 2)).op = 1 then [98, 114, 97, 110, 99, 104] else [111, 110] by unfold endsS; simp [h1])
    have hn2 : ((n : Int) - 2).toNat = n - 2 := by omega
    have hb1 := (HI29.out.keep HK13.out).1
    have hb2 := (HI29.out.keep HK13.out).2.1
    have HEN := Lib.hid (fun (w : World) (h : InsAt w A1 n c1 g) => ends_any (.int .u32 P) (.slice A2 kk c2) A1 n c1 g hn24 HOP.out w h (endsS g n) (Lib.hid rfl))
    generalize (g (n - 2)).op = op at *
    go_wp2_with fail
    refine (kindOf_any op hop2 _).mono ?_
    rintro e w14 ⟨rfl, hk14⟩
    have HK14 := Lib.hid (HK13.out.trans hk14 (fun _ _ h => h))
    clear hk14 a0 a1 a2 b0 b1 b2 hcl
    obtain ⟨⟨a0, a1, a2⟩, _⟩ := cells3 (box3_keep HB9.out HK14.out)
    obtain ⟨⟨b0, b1, b2⟩, _⟩ := cells3 (box3_keep HC9.out HK14.out)
    have HTS := Lib.hid (kd_test3 (Cd.kd op) (kd_lt6 op hop2)).2.2
    by_cases hk1 : Cd.kd op = 1
    · have tb1 : ((⟨(Cd.kindS (Cd.kd op)).toArray⟩ : ByteArray).toList == [98, 114, 97, 110, 99, 104]) = true := by rw [HTS.out]; simp [hk1]
      have HE2 := Lib.hid (show ∀ (w : World), InsAt w A1 n c1 g → Calls Tryd.prog 21 #[.agg #[.int .u32 P, .slice A1 n c1, .slice A2 kk c2]] w fun e w' => e = .returned (.string ⟨#[98, 114, 97, 110, 99, 104]⟩) ∧ Keeps (fun _ => False) w w' from fun w h => by
        have := HEN.out w h
        rw [HT.out, if_pos hk1] at this
        exact this)
      clear hk1
      generalize (⟨(Cd.kindS (Cd.kd op)).toArray⟩ : ByteArray) = ks at *
      go_wp2_with fail
      refine (len_any (.int .u32 P) _ (.slice A2 kk c2) A1 n c1 rfl hn24 _).mono ?_
      rintro e w15 ⟨rfl, hk15⟩
      have HK15 := Lib.hid (HK14.out.trans hk15 (fun _ _ h => h))
      clear hk15 a0 a1 a2
      obtain ⟨⟨a0, a1, a2⟩, _⟩ := cells3 (box3_keep HB9.out HK15.out)
      go_wp2_with fail
      refine (HE2.out _ (HI9.out.keep HK15.out)).mono ?_
      rintro e w16 ⟨rfl, hk16⟩
      have HK16 := Lib.hid (HK15.out.trans hk16 (fun _ _ h => h))
      clear hk16 a0 a1 a2
      go_wp2_with fail
      go_ret
      exact ⟨rfl, HK9.out.trans HK16.out (fun _ _ h => h)⟩
    · have tb1 : ((⟨(Cd.kindS (Cd.kd op)).toArray⟩ : ByteArray).toList == [98, 114, 97, 110, 99, 104]) = false := by rw [HTS.out]; simp [hk1]
      have HE2 := Lib.hid (show ∀ (w : World), InsAt w A1 n c1 g → Calls Tryd.prog 21 #[.agg #[.int .u32 P, .slice A1 n c1, .slice A2 kk c2]] w fun e w' => e = .returned (.string ⟨#[111, 110]⟩) ∧ Keeps (fun _ => False) w w' from fun w h => by
        have := HEN.out w h
        rw [HT.out, if_neg hk1] at this
        exact this)
      clear hk1
      generalize (⟨(Cd.kindS (Cd.kd op)).toArray⟩ : ByteArray) = ks at *
      go_wp2_with fail
      refine (len_any (.int .u32 P) _ (.slice A2 kk c2) A1 n c1 rfl hn24 _).mono ?_
      rintro e w15 ⟨rfl, hk15⟩
      have HK15 := Lib.hid (HK14.out.trans hk15 (fun _ _ h => h))
      clear hk15 a0 a1 a2
      obtain ⟨⟨a0, a1, a2⟩, _⟩ := cells3 (box3_keep HB9.out HK15.out)
      go_wp2_with fail
      refine (HE2.out _ (HI9.out.keep HK15.out)).mono ?_
      rintro e w16 ⟨rfl, hk16⟩
      have HK16 := Lib.hid (HK15.out.trans hk16 (fun _ _ h => h))
      clear hk16 a0 a1 a2
      go_wp2_with fail
      go_ret
      exact ⟨rfl, HK9.out.trans HK16.out (fun _ _ h => h)⟩
  · have HE2 := Lib.hid (show ∀ (w : World), InsAt w A1 n c1 g → Calls Tryd.prog 21 #[.agg #[.int .u32 P, .slice A1 n c1, .slice A2 kk c2]] w fun e w' => e = .returned (.string ⟨#[111, 110]⟩) ∧ Keeps (fun _ => False) w w' from fun w h => by
      have := ends_any (.int .u32 P) (.slice A2 kk c2) A1 n c1 g hn24 HOP.out w h (endsS g n) (Lib.hid rfl)
      rw [show endsS g n = [111, 110] by unfold endsS; rw [if_neg (fun h => h1 h.1)]] at this
      exact this)
    go_wp2_with fail
    refine (len_any (.int .u32 P) _ (.slice A2 kk c2) A1 n c1 rfl hn24 _).mono ?_
    rintro e w15 ⟨rfl, hk15⟩
    have HK15 := Lib.hid (HK13.out.trans hk15 (fun _ _ h => h))
    clear hk15 a0 a1 a2
    obtain ⟨⟨a0, a1, a2⟩, _⟩ := cells3 (box3_keep HB9.out HK15.out)
    go_wp2_with fail
    refine (HE2.out _ (HI9.out.keep HK15.out)).mono ?_
    rintro e w16 ⟨rfl, hk16⟩
    have HK16 := Lib.hid (HK15.out.trans hk16 (fun _ _ h => h))
    clear hk16 a0 a1 a2
    go_wp2_with fail
    go_ret
    exact ⟨rfl, HK9.out.trans HK16.out (fun _ _ h => h)⟩
end Go.Proofs.YtlbdkcnbgdmpaaaDoor

/- SentAll -/
/- What the row's list of the ten errors and of errors.errorType gives the walks. -/
namespace Go.Proofs.YtlbdkcnbgdmpaaaDoor
open Go.ChangeShapes Go.WideShapes Go.RowKit
set_option linter.unusedVariables false

/-- one listed error: its variable, its text, its block -/
theorem laid_errP {P : Program} {n nm : String} {text : List UInt8} {r : List (String × DataW Unit)} {W : World} {g : Nat} {ti tp te ts : TypeId} {ms : Array (String × TypeId)} {f : Field}
    (h : laidMet P ((n, .iface nm (.ptr (.agg [.lit (.string text)]))) :: r) W)
    (hg : P.globalNamed n = some g) (ht : (P.globals[g]?).map (·.type) = some ti) (hi : P.underlying ti = some (.interface ms)) (hrow : ∀ u, P.typeName? 3 u = some nm → u = tp)
    (hp : P.underlying tp = some (.pointer te)) (he : P.underlying te = some (.struct #[f])) (hft : f.type = ts) (hfo : f.offset = 0) (hs : P.underlying ts = some .string) (hc : P.cellsOf te = 1) (hcs : P.cellsOf ts = 1) :
    ∃ (a : Addr) (s : ByteArray), W.cell? ⟨g, 0, none⟩ = some (.iface tp (.pointer (some a))) ∧ W.cell? a = some (.string s) ∧ s.data.toList = text ∧ ∃ c t, W.heap[a.block]? = some (.cells c t (0, 0)) := by
  obtain ⟨ps, ⟨g0, t0, cs0, f0, p0, q0, hg0, ht0, hv0, hd0, _, e0⟩, _, hrows⟩ := h
  obtain rfl := Option.some.inj (hg.symm.trans hg0)
  obtain rfl := Option.some.inj (ht.symm.trans ht0)
  subst e0
  obtain ⟨l0⟩ := cs0
  have ok0 : ∀ u v, l0 = [.iface u v] → Value.okWide P W .any 0 u v := fun u v e => by
    subst e
    exact (hrows g 0 (by simp [MemPlace.row])).2 u v (by simpa using World.var?_cell hg0 hv0 0)
  obtain ⟨a0, s0, rfl, hc0, hs0, hz0, rfl⟩ := errorString_of_trod hi hrow hp he hft hfo hs hc hcs hd0 ok0
  exact ⟨a0, s0, by simpa using World.var?_cell hg0 hv0 0, hc0, hs0, (hrows a0.block a0.off (by simp [MemPlace.row])).1⟩
theorem laid_err {n : String} {text : List UInt8} {r : List (String × DataW Unit)} {W : World} {g : Nat}
    (h : laidMet Tryd.prog ((n, .iface "*errors.errorString" (.ptr (.agg [.lit (.string text)]))) :: r) W) (hg : Tryd.prog.globalNamed n = some g) (ht : (Tryd.prog.globals[g]?).map (·.type) = some 32) :
    ∃ (a : Addr) (s : ByteArray), W.cell? ⟨g, 0, none⟩ = some (.iface 173 (.pointer (some a))) ∧ W.cell? a = some (.string s) ∧ s.data.toList = text ∧ ∃ c t, W.heap[a.block]? = some (.cells c t (0, 0)) :=
  laid_errP h hg ht Tryd.underlying32 Tryd.rowES Tryd.underlying173 Tryd.underlying194 rfl rfl Tryd.underlying9 Tryd.cells_es Tryd.cells_str
theorem Tryd.g_Text : Tryd.prog.globalNamed "changeling/api.ErrText" = some 5 := by kernel_rfl
theorem Tryd.t_Text : (Tryd.prog.globals[5]?).map (·.type) = some 32 := by kernel_rfl
theorem Tryd.g_Bound : Tryd.prog.globalNamed "changeling/api.ErrBound" = some 1 := by kernel_rfl
theorem Tryd.t_Bound : (Tryd.prog.globals[1]?).map (·.type) = some 32 := by kernel_rfl
theorem Tryd.g_Shape : Tryd.prog.globalNamed "changeling/api.ErrShape" = some 0 := by kernel_rfl
theorem Tryd.t_Shape : (Tryd.prog.globals[0]?).map (·.type) = some 32 := by kernel_rfl
theorem Tryd.g_Kind : Tryd.prog.globalNamed "changeling/api.ErrKind" = some 6 := by kernel_rfl
theorem Tryd.t_Kind : (Tryd.prog.globals[6]?).map (·.type) = some 32 := by kernel_rfl
theorem Tryd.g_Name : Tryd.prog.globalNamed "changeling/api.ErrName" = some 7 := by kernel_rfl
theorem Tryd.t_Name : (Tryd.prog.globals[7]?).map (·.type) = some 32 := by kernel_rfl
theorem Tryd.g_None : Tryd.prog.globalNamed "changeling/api.ErrNone" = some 4 := by kernel_rfl
theorem Tryd.t_None : (Tryd.prog.globals[4]?).map (·.type) = some 32 := by kernel_rfl
theorem Tryd.g_Exist : Tryd.prog.globalNamed "changeling/api.ErrExist" = some 8 := by kernel_rfl
theorem Tryd.t_Exist : (Tryd.prog.globals[8]?).map (·.type) = some 32 := by kernel_rfl
theorem Tryd.g_Full : Tryd.prog.globalNamed "changeling/api.ErrFull" = some 9 := by kernel_rfl
theorem Tryd.t_Full : (Tryd.prog.globals[9]?).map (·.type) = some 32 := by kernel_rfl
theorem Tryd.g_Align : Tryd.prog.globalNamed "changeling/api.ErrAlign" = some 2 := by kernel_rfl
theorem Tryd.t_Align : (Tryd.prog.globals[2]?).map (·.type) = some 32 := by kernel_rfl
theorem Tryd.g_Far : Tryd.prog.globalNamed "changeling/api.ErrFar" = some 3 := by kernel_rfl
theorem Tryd.t_Far : (Tryd.prog.globals[3]?).map (·.type) = some 32 := by kernel_rfl
theorem Tryd.et : Tryd.prog.globalNamed "errors.errorType" = some 10 := by kernel_rfl
theorem Tryd.rt : (Tryd.prog.cutTypes.find? (·.1 == "internal/reflectlite.rtype")).map (·.2) = some 142 := by kernel_rfl
theorem Tryd.oneRow : ((List.range Tryd.prog.types.size).filter fun t => Tryd.prog.rowNamed t [101, 114, 114, 111, 114]) = [32] := by kernel_rfl
theorem handle_of {W : World} (h : handlesMet Tryd.prog [("errors.errorType", Rows.laid_errors_errorType)] W) : W.cell? ⟨10, 0, none⟩ = some (.iface 142 (.agg #[.pointer (some ⟨11, 32, none⟩)])) := by
  obtain ⟨name, u, ty, e1, e2, e3, e4, e5⟩ := h _ (List.mem_singleton.2 rfl)
  have en : name = [101, 114, 114, 111, 114] := (Option.some.inj e1).symm
  subst en
  obtain rfl := Option.some.inj (Tryd.rt.symm.trans e2)
  have hm : ty ∈ (List.range Tryd.prog.types.size).filter fun t => Tryd.prog.rowNamed t [101, 114, 114, 111, 114] := List.mem_filter.2 ⟨List.mem_range.2 e3, e4⟩
  rw [Tryd.oneRow] at hm
  obtain rfl := List.mem_singleton.1 hm
  have hh : typeHandle Tryd.prog 32 = .pointer (some ⟨11, 32, none⟩) := by kernel_rfl
  rw [hh] at e5
  simpa using World.var?_cell Tryd.et e5 0

/-- the ten addresses by their numbers -/
def eaOf (a1 a2 a3 a4 a5 a6 a7 a8 a9 a10 : Addr) : Nat → Addr
  | 1 => a1
  | 2 => a2
  | 3 => a3
  | 4 => a4
  | 5 => a5
  | 6 => a6
  | 7 => a7
  | 8 => a8
  | 9 => a9
  | _ => a10
/-- their texts -/
def textOf : Nat → List UInt8
  | 1 => [99, 104, 97, 110, 103, 101, 108, 105, 110, 103, 58, 32, 116, 101, 120, 116]
  | 2 => [99, 104, 97, 110, 103, 101, 108, 105, 110, 103, 58, 32, 98, 111, 117, 110, 100]
  | 3 => [99, 104, 97, 110, 103, 101, 108, 105, 110, 103, 58, 32, 115, 104, 97, 112, 101]
  | 4 => [99, 104, 97, 110, 103, 101, 108, 105, 110, 103, 58, 32, 107, 105, 110, 100]
  | 5 => [99, 104, 97, 110, 103, 101, 108, 105, 110, 103, 58, 32, 110, 97, 109, 101]
  | 6 => [99, 104, 97, 110, 103, 101, 108, 105, 110, 103, 58, 32, 110, 111, 110, 101]
  | 7 => [99, 104, 97, 110, 103, 101, 108, 105, 110, 103, 58, 32, 101, 120, 105, 115, 116]
  | 8 => [99, 104, 97, 110, 103, 101, 108, 105, 110, 103, 58, 32, 102, 117, 108, 108]
  | 9 => [99, 104, 97, 110, 103, 101, 108, 105, 110, 103, 58, 32, 97, 108, 105, 103, 110]
  | _ => [99, 104, 97, 110, 103, 101, 108, 105, 110, 103, 58, 32, 102, 97, 114]
set_option maxRecDepth 100000 in
theorem textOf_ne (c d : Nat) (h1 : 1 ≤ c) (h2 : c ≤ 10) (h3 : 1 ≤ d) (h4 : d ≤ 10) (h : c ≠ d) : textOf c ≠ textOf d := by
  have key : ∀ c d : Fin 11, 1 ≤ c.val → 1 ≤ d.val → c.val ≠ d.val → textOf c.val ≠ textOf d.val := by decide
  exact key ⟨c, by omega⟩ ⟨d, by omega⟩ h1 h3 h
set_option maxRecDepth 100000 in
set_option maxHeartbeats 2000000 in
theorem errsAll {W : World} (h : laidMet Tryd.prog [("changeling/api.ErrText", Rows.laid_changeling_api_ErrText), ("changeling/api.ErrBound", Rows.laid_changeling_api_ErrBound), ("changeling/api.ErrShape", Rows.laid_changeling_api_ErrShape), ("changeling/api.ErrKind", Rows.laid_changeling_api_ErrKind), ("changeling/api.ErrName", Rows.laid_changeling_api_ErrName), ("changeling/api.ErrNone", Rows.laid_changeling_api_ErrNone), ("changeling/api.ErrExist", Rows.laid_changeling_api_ErrExist), ("changeling/api.ErrFull", Rows.laid_changeling_api_ErrFull), ("changeling/api.ErrAlign", Rows.laid_changeling_api_ErrAlign), ("changeling/api.ErrFar", Rows.laid_changeling_api_ErrFar)] W) (hh : handlesMet Tryd.prog [("errors.errorType", Rows.laid_errors_errorType)] W) : ∃ ea, ErrsAll W ea := by
  obtain ⟨a1, s1, c1, k1, x1, b1⟩ := laid_err h Tryd.g_Text Tryd.t_Text
  obtain ⟨a2, s2, c2, k2, x2, b2⟩ := laid_err h.tail Tryd.g_Bound Tryd.t_Bound
  obtain ⟨a3, s3, c3, k3, x3, b3⟩ := laid_err h.tail.tail Tryd.g_Shape Tryd.t_Shape
  obtain ⟨a4, s4, c4, k4, x4, b4⟩ := laid_err h.tail.tail.tail Tryd.g_Kind Tryd.t_Kind
  obtain ⟨a5, s5, c5, k5, x5, b5⟩ := laid_err h.tail.tail.tail.tail Tryd.g_Name Tryd.t_Name
  obtain ⟨a6, s6, c6, k6, x6, b6⟩ := laid_err h.tail.tail.tail.tail.tail Tryd.g_None Tryd.t_None
  obtain ⟨a7, s7, c7, k7, x7, b7⟩ := laid_err h.tail.tail.tail.tail.tail.tail Tryd.g_Exist Tryd.t_Exist
  obtain ⟨a8, s8, c8, k8, x8, b8⟩ := laid_err h.tail.tail.tail.tail.tail.tail.tail Tryd.g_Full Tryd.t_Full
  obtain ⟨a9, s9, c9, k9, x9, b9⟩ := laid_err h.tail.tail.tail.tail.tail.tail.tail.tail Tryd.g_Align Tryd.t_Align
  obtain ⟨a10, s10, c10, k10, x10, b10⟩ := laid_err h.tail.tail.tail.tail.tail.tail.tail.tail.tail Tryd.g_Far Tryd.t_Far
  have tx : ∀ c, 1 ≤ c → c ≤ 10 → ∃ s, W.cell? (eaOf a1 a2 a3 a4 a5 a6 a7 a8 a9 a10 c) = some (.string s) ∧ s.data.toList = textOf c := by
    intro c h1 h2
    have : c = 1 ∨ c = 2 ∨ c = 3 ∨ c = 4 ∨ c = 5 ∨ c = 6 ∨ c = 7 ∨ c = 8 ∨ c = 9 ∨ c = 10 := by omega
    rcases this with rfl | rfl | rfl | rfl | rfl | rfl | rfl | rfl | rfl | rfl
    · exact ⟨s1, k1, x1⟩
    · exact ⟨s2, k2, x2⟩
    · exact ⟨s3, k3, x3⟩
    · exact ⟨s4, k4, x4⟩
    · exact ⟨s5, k5, x5⟩
    · exact ⟨s6, k6, x6⟩
    · exact ⟨s7, k7, x7⟩
    · exact ⟨s8, k8, x8⟩
    · exact ⟨s9, k9, x9⟩
    · exact ⟨s10, k10, x10⟩
  refine ⟨eaOf a1 a2 a3 a4 a5 a6 a7 a8 a9 a10, ?_, ?_, ?_, handle_of hh⟩
  · intro c h1 h2
    have : c = 1 ∨ c = 2 ∨ c = 3 ∨ c = 4 ∨ c = 5 ∨ c = 6 ∨ c = 7 ∨ c = 8 ∨ c = 9 ∨ c = 10 := by omega
    rcases this with rfl | rfl | rfl | rfl | rfl | rfl | rfl | rfl | rfl | rfl
    · exact c1
    · exact c2
    · exact c3
    · exact c4
    · exact c5
    · exact c6
    · exact c7
    · exact c8
    · exact c9
    · exact c10
  · intro c h1 h2
    have : c = 1 ∨ c = 2 ∨ c = 3 ∨ c = 4 ∨ c = 5 ∨ c = 6 ∨ c = 7 ∨ c = 8 ∨ c = 9 ∨ c = 10 := by omega
    rcases this with rfl | rfl | rfl | rfl | rfl | rfl | rfl | rfl | rfl | rfl
    · exact b1
    · exact b2
    · exact b3
    · exact b4
    · exact b5
    · exact b6
    · exact b7
    · exact b8
    · exact b9
    · exact b10
  · have hx : ∀ {a b : Addr} {s t : ByteArray} {x y : List UInt8}, W.cell? a = some (.string s) → W.cell? b = some (.string t) → s.data.toList = x → t.data.toList = y → x ≠ y → a ≠ b := by
      rintro a b s t x y h1 h2 rfl rfl h3 rfl
      rw [h1] at h2
      injection h2 with h2
      injection h2 with h2
      exact h3 (by rw [h2])
    intro c d h1 h2 h3 h4 h5
    obtain ⟨s, q1, q2⟩ := tx c h1 h2
    obtain ⟨t, q3, q4⟩ := tx d h3 h4
    exact hx q1 q3 q2 q4 (textOf_ne c d h1 h2 h3 h4 h5)

/-- the five errors of package region -/
theorem errsOf5 {W : World} (h : laidMet Tryd.prog [("changeling/api.ErrBound", Rows.laid_changeling_api_ErrBound), ("changeling/api.ErrShape", Rows.laid_changeling_api_ErrShape), ("changeling/api.ErrNone", Rows.laid_changeling_api_ErrNone), ("changeling/api.ErrAlign", Rows.laid_changeling_api_ErrAlign), ("changeling/api.ErrFar", Rows.laid_changeling_api_ErrFar)] W) :
    ∃ ea : Nat → Addr, ∀ c, (c = 2 ∨ c = 3 ∨ c = 6 ∨ c = 9 ∨ c = 10) → W.cell? ⟨gOf c, 0, none⟩ = some (errV ea c) := by
  obtain ⟨a2, _, c2, _⟩ := laid_err h Tryd.g_Bound Tryd.t_Bound
  obtain ⟨a3, _, c3, _⟩ := laid_err h.tail Tryd.g_Shape Tryd.t_Shape
  obtain ⟨a6, _, c6, _⟩ := laid_err h.tail.tail Tryd.g_None Tryd.t_None
  obtain ⟨a9, _, c9, _⟩ := laid_err h.tail.tail.tail Tryd.g_Align Tryd.t_Align
  obtain ⟨a10, _, c10, _⟩ := laid_err h.tail.tail.tail.tail Tryd.g_Far Tryd.t_Far
  refine ⟨fun c => if c = 2 then a2 else if c = 3 then a3 else if c = 6 then a6 else if c = 9 then a9 else a10, fun c hc => ?_⟩
  rcases hc with rfl | rfl | rfl | rfl | rfl
  · exact c2
  · exact c3
  · exact c6
  · exact c9
  · exact c10
end Go.Proofs.YtlbdkcnbgdmpaaaDoor

/- RegionFormsLaw -/
/-
  RegionForms: for every input the law returns true, and each argument reads behind the call as it read before. Condition: the listed variables hold what the program's text lays in them (the card ties that to the text).
-/
namespace Go.Proofs.YtlbdkcnbgdmpaaaDoor.regionForms
open Go.ChangeShapes Go.WideShapes Go.ChangeAt Go.RowKit
set_option linter.unusedVariables false

theorem door_met (os : Os) (args : Array Value) : laidMetH Tryd.prog Rows.regionFormsRow.laid ((World.doorLaid Tryd.prog 400 os).forCall (fun _ _ => 0) ⟨#[], args, []⟩).memory :=
  laidMetH_of_parts3 (fuel := 8) (laidMet_of_run' 8 (by kernel_rfl) (by kernel_rfl)) (by kernel_rfl) (by kernel_rfl)

set_option maxRecDepth 100000 in
theorem lifted (os : Os) (started : os.Started) (H : Type) (enc : TypeId × Value → H) :
    ReturnsInHanded {} Tryd.checked os 4 .any (fun w args => (Rows.regionFormsSpec.pre enc Tryd.prog Tryd.f4 [] false w args ∧ laidMetH Tryd.prog Rows.regionFormsRow.laid w) ∧ sizedMet enc Tryd.prog Tryd.f4 (OpenSpec.ofChange Rows.regionFormsSpec) false w args)
      (Rows.regionFormsSpec.post enc Tryd.prog Tryd.f4 false true false false) := by
  refine returnsInHanded_of_change_and (C := Tryd.checked) (X := fun w _ => laidMetH Tryd.prog Rows.regionFormsRow.laid w) (fun _ _ _ hh h => h.of_heap hh) Tryd.own started (by kernel_rfl) Tryd.func4
    (ChangeSpec.witness_shaped (enc := enc) (C := Tryd.checked) (os := os) (X := fun w _ => laidMetH Tryd.prog Rows.regionFormsRow.laid w) false (World.doorLaid Tryd.prog 400 os) #[.slice none 0 0, .int .u32 0, .int .i64 0] 8 rfl (World.shaped_of_RefB (by kernel_rfl) (by kernel_rfl)) (by kernel_rfl) (by kernel_rfl) (by kernel_rfl) (door_met os _)) ?_
  intro W base args ds gs before hval0 hW _ _ hL _
  have hval : ∀ (j : Nat) t v, Tryd.f4.params[j]? = some t → args[j]? = some v → Value.okWide Tryd.prog W .any base t v := hval0
  have hW' := hW
  obtain ⟨p, q, hA0, hV, rfl, hfz, hnd⟩ := hW
  have hA : DataW.TrodAll enc Tryd.prog W 0 (fun _ => true) true Tryd.f4.params.toList args.toList ds p := hA0
  rw [Tryd.params4] at hA hval
  obtain ⟨v0, vs0, d0, ds0, p0, q0, hargs, rfl, rfl, h0, r0⟩ := trodAll_cons hA
  obtain ⟨v1, vs1, d1, ds1, p1, q1, rfl, rfl, rfl, h1, r1⟩ := trodAll_cons r0
  obtain ⟨v2, vs2, d2, ds2, p2, q2, rfl, rfl, rfl, h2, r2⟩ := trodAll_cons r1
  obtain ⟨rfl, rfl, rfl⟩ := trodAll_nil r2
  obtain rfl : args = #[v0, v1, v2] := by cases args; simp_all
  obtain ⟨rfl, rfl⟩ := trodVars_none hV
  have hlt0 : ∀ x ∈ p0, x.block < W.heap.size := fun x hx => hW'.lt x (by simp [hx])
  obtain ⟨A0, len0, cap0, ws0, rfl, hR0, hcm0, hr0⟩ := open_words Tryd.underlying22 Tryd.underlying23 Tryd.cells_u32 (hval 0 22 v0 rfl rfl) h0 hlt0
  have hc0 : cap0 ≤ 9223372036854775807 := by unfold maxLen at hcm0; omega
  obtain ⟨a1, rfl, rfl, rfl, w1⟩ := open_int Tryd.underlying23 (hval 1 23 v1 rfl rfl) h1
  obtain ⟨a2, rfl, rfl, rfl, w2⟩ := open_int Tryd.underlying3 (hval 2 3 v2 rfl rfl) h2
  obtain ⟨ea, E⟩ := errsAll (laidMetH_iff.1 hL).1 (laidMetH_iff.1 hL).2
  refine (regionForms_any len0 cap0 A0 a1 a2 W ws0 ea E hR0 hc0 hr0 (rng_u32 w1)).mono fun e W' ⟨he, hk⟩ => ?_
  subst he
  exact ⟨_, rfl, law_post Tryd.laidOut (fun t ht => by
      rw [Tryd.params4] at ht
      simp at ht
      rcases ht with rfl | rfl | rfl <;> exact ⟨by kernel_rfl, of_decide_eq_true (by kernel_rfl)⟩) (by kernel_rfl) Tryd.underlying4 rfl hW' rfl (hk.below (Nat.le_refl _) (fun _ _ h => h.elim))⟩

theorem said : Rows.RegionFormsSaid :=
  OpenClaim.holds_of_wide 4 Tryd.f4 rfl rfl rfl rfl rfl rfl rfl ⟨rfl, rfl, rfl, rfl, rfl⟩ rfl rfl rfl rfl rfl (by kernel_rfl) Tryd.func4 (by kernel_rfl)
    (of_decide_eq_true (by kernel_rfl)) (by unfold Func.isWrapper; rw [if_neg (of_decide_eq_false (by kernel_rfl))]; exact ⟨rfl, rfl⟩)
    (fun os started H enc _ => lifted os started H enc)

theorem plain (f : FuncId) (fn : Func) (hf : Tryd.pinned.checked.prog.funcNamed "changeling/changelinglaw2.RegionForms" = some f) (hfn : Tryd.pinned.checked.prog.funcs[f]? = some fn) :
    Rows.regionFormsCard.stood.looks = Tryd.pinned.checked.prog.looks [] ∧ ∀ (j : Nat) t, fn.params[j]? = some t → Tryd.pinned.checked.prog.wantsStandIn t = false := by
  obtain rfl : f = 4 := Option.some.inj ((show Tryd.prog.funcNamed "changeling/changelinglaw2.RegionForms" = some 4 by kernel_rfl).symm.trans hf) |>.symm
  obtain rfl : fn = Tryd.f4 := (Option.some.inj (Tryd.func4.symm.trans hfn)).symm
  refine ⟨by kernel_rfl, fun j t ht => ?_⟩
  rw [Tryd.params4] at ht
  have hm := Array.mem_of_getElem? ht
  simp at hm
  rcases hm with rfl | rfl | rfl
  · exact (show Tryd.prog.wantsStandIn 22 = false by kernel_rfl)
  · exact (show Tryd.prog.wantsStandIn 23 = false by kernel_rfl)
  · exact (show Tryd.prog.wantsStandIn 3 = false by kernel_rfl)

theorem card : Rows.RegionFormsCardSaid :=
  Claim7.holds_tied_plain_at .later [] _ _ _ _ said (fun _ h => by cases h) (by kernel_rfl) (fun _ h => by cases h) regionForms_row_tie rfl ⟨rfl, rfl⟩ (by kernel_rfl) rfl plain (by kernel_rfl)
end Go.Proofs.YtlbdkcnbgdmpaaaDoor.regionForms
namespace Go.Proofs.YtlbdkcnbgdmpaaaDoor
theorem regionForms_card : Rows.RegionFormsCardSaid := regionForms.card
end Go.Proofs.YtlbdkcnbgdmpaaaDoor
