/- The walk of asBus over a bus and the reference's bus that hold the same. -/
import Derived.Test.YtchleihlnpplkaaDoorAsBus
import Derived.Deep.RegionHeld3
namespace Go.Proofs.YtchleihlnpplkaaDoor
open Go.RowKit Go.Deep
set_option linter.unusedVariables false

section
variable {b r pb pw ph cp q wb tb hb rb : Nat} {ov tv tv' : Value} {O O' : Nat → Prop} {w : World} {s : Sb}
theorem output_at (wc : World) (h : BIn b r pb pw ph cp ov tv O w s) (hk : Keeps (fun _ => False) w wc) :
    Calls Tryd.prog 41 #[.pointer (some ⟨b, 0, none⟩)] wc fun e w' => e = .returned (.string ⟨s.l.toArray⟩) ∧ wc = w' :=
  output_any b r ov _ s.l s.lamp tv s.tn s.tr wc (h.keep hk (fun _ _ h => h)).bus
theorem lamp_at (wc : World) (h : BIn b r pb pw ph cp ov tv O w s) (hk : Keeps (fun _ => False) w wc) :
    Calls Tryd.prog 49 #[.pointer (some ⟨b, 0, none⟩)] wc fun e w' => e = .returned (.int .u32 s.lamp) ∧ wc = w' :=
  lamp_any b r ov _ _ s.lamp tv s.tn s.tr wc (h.keep hk (fun _ _ h => h)).bus
theorem ramOf_at (wc : World) (h : BIn b r pb pw ph cp ov tv O w s) (hk : Keeps (fun _ => False) w wc) :
    Calls Tryd.prog 21 #[.pointer (some ⟨b, 0, none⟩)] wc fun e w' => e = .returned (.pointer (some ⟨r, 0, none⟩)) ∧ wc = w' :=
  ramOf_any b r wc (by simp [World.cell?, (h.keep hk (fun _ _ h => h)).bus.box])
theorem trace_at (wc : World) (h : BIn b r pb pw ph cp ov tv O w s) (hk : Keeps (fun _ => False) w wc) (hn : s.tn < 1000000) :
    Calls Tryd.prog 20 #[.pointer (some ⟨b, 0, none⟩)] wc fun e w' => ∃ A cap, e = .returned (.slice A s.tn cap) ∧ TrAt w' A s.tn cap s.tr ∧ Keeps (fun _ => False) wc w' :=
  (trace_any b r ov _ _ s.lamp tv s.tn s.tr wc (h.keep hk (fun _ _ h => h)).bus hn h.acc.one).mono fun e w' ⟨v', he, ho, hk⟩ => by
    obtain ⟨A, cap, rfl, hT⟩ := TrAt.of_owns ho
    exact ⟨A, cap, he, hT, hk⟩
theorem words_at (wc : World) (h : BIn b r pb pw ph cp ov tv O w s) (hk : Keeps (fun _ => False) w wc) :
    Calls Tryd.prog 12 #[.pointer (some ⟨r, 0, none⟩)] wc fun e w' => ∃ g, e = .returned (.slice (some ⟨g, 0, none⟩) 4096 4096) ∧ w'.rowIs g 23 4096 (fun k => .int .u32 (be s.m (4 * k) 4)) ∧ Keeps (fun _ => False) wc w' :=
  (words_any r pb pw ph _ s.m wc (h.keep hk (fun _ _ h => h)).ram).mono fun e w' ⟨he, hr, hk⟩ => ⟨_, he, hr, hk⟩
theorem sameTrace_at (A B : Option Addr) (n ca cb : Nat) (tr : List Value) (wt wc : World) (h1 : TrAt wt A n ca tr) (h2 : TrAt w B n cb tr) (hacc : AccRow tr n) (hn : n < 1000000) (hk : Keeps (fun _ => False) w wc) (hk1 : Keeps (fun _ => False) wt wc) :
    Calls Tryd.prog 50 #[.slice A n ca, .slice B n cb] wc fun e w' => e = .returned (.bool true) ∧ Keeps (fun _ => False) wc w' :=
  sameTrace_same A B n ca cb tr wc (h1.keep hk1) (h2.keep hk) hacc hn
theorem alike_at (a wb : Nat) (m : Nat → Int) (wx wc : World) (hr : wx.rowIs a 23 4096 (fun i => .int .u32 (be m (4 * i) 4))) (hw : RowTo w wb 23 4096 (fun i => .int .u32 (be m (4 * i) 4))) (hk : Keeps (fun _ => False) w wc) (hk1 : Keeps (fun _ => False) wx wc) :
    Calls Tryd.prog 15 #[.slice (some ⟨a, 0, none⟩) 4096 4096, .slice (some ⟨wb, 0, none⟩) 4096 4096] wc fun e w' => e = .returned (.int .i64 1) ∧ Keeps (fun _ => False) wc w' :=
  alike_ram a wb m w wc (hk1.row hr (fun h => h)) hw hk
end

set_option maxRecDepth 100000 in
set_option maxHeartbeats 4000000 in
theorem asBus_any (b rb : Nat) (O O' : Nat → Prop) (s : Sb) (w : World) (hB : BInv b O w s) (hR : RInv rb O' w s) (hn : s.tn < 1000000) :
    Calls Tryd.prog 27 #[.pointer (some ⟨b, 0, none⟩), .pointer (some ⟨rb, 0, none⟩)] w fun e w' => e = .returned (.bool true) ∧ Keeps (fun _ => False) w w' := by
  obtain ⟨r, pb, pw, ph, cp, ov, tv, hB⟩ := hB
  obtain ⟨q, wb, tb, hb, tv2, hR⟩ := hR
  obtain ⟨A2, cap2, rfl, hT2⟩ := TrAt.of_owns hR.bus.tr
  obtain ⟨c0, c1, c2, c3, c4⟩ := hR.cells
  have HB := Lib.hid hB
  have HT := Lib.hid hT2
  have HW := Lib.hid hR.ram.raw.words
  have HA := Lib.hid hB.acc
  clear hB hR hT2
  go_enter Tryd.func27, Tryd.ntmps27
  go_wp2_with fail
  go_region_held3 (fun w' => Keeps (fun _ => False) w w' ∧ w'.cell? ⟨rb, 0, none⟩ = some (.pointer (some ⟨q, 0, none⟩)) ∧ w'.cell? ⟨rb, 1, none⟩ = some (.string ⟨s.l.toArray⟩) ∧ w'.cell? ⟨rb, 2, none⟩ = some (.int .u32 s.lamp) ∧ w'.cell? ⟨rb, 3, none⟩ = some (.slice A2 s.tn cap2) ∧ w'.cell? ⟨q, 0, none⟩ = some (.slice (some ⟨wb, 0, none⟩) 4096 4096))
    (first | (refine ⟨?_, ?_, ?_, ?_, ?_, ?_⟩ <;> first | ((repeat (first | exact Keeps.refl _ _ | assumption | apply Keeps.drew | apply Keeps.drewN | apply Keeps.alloc | (refine Keeps.trans ?_ (by assumption) (fun _ _ h => h)))); done) | (refine Keeps.cell' (S := fun _ => False) (w := w) ?_ (by assumption) (fun f => f); (repeat (first | exact Keeps.refl _ _ | assumption | apply Keeps.drew | apply Keeps.drewN | apply Keeps.alloc | (refine Keeps.trans ?_ (by assumption) (fun _ _ h => h)))); done)) | (trace_state; fail))
    (first
      | (go_at_call 41; refine (output_at _ HB.out ?_).mono ?_; (repeat (first | exact Keeps.refl _ _ | assumption | apply Keeps.drew | apply Keeps.drewN | apply Keeps.alloc | (refine Keeps.trans ?_ (by assumption) (fun _ _ h => h)))); rintro e w' ⟨rfl, rfl⟩)
      | (go_at_call 49; refine (lamp_at _ HB.out ?_).mono ?_; (repeat (first | exact Keeps.refl _ _ | assumption | apply Keeps.drew | apply Keeps.drewN | apply Keeps.alloc | (refine Keeps.trans ?_ (by assumption) (fun _ _ h => h)))); rintro e w' ⟨rfl, rfl⟩)
      | (go_at_call 20; refine (trace_at _ HB.out ?_ hn).mono ?_; (repeat (first | exact Keeps.refl _ _ | assumption | apply Keeps.drew | apply Keeps.drewN | apply Keeps.alloc | (refine Keeps.trans ?_ (by assumption) (fun _ _ h => h)))); rintro e wt ⟨A1, cap1, rfl, hT1, hkt⟩)
      | (go_at_call 50; refine (sameTrace_at A1 A2 s.tn cap1 cap2 s.tr wt _ hT1 HT.out HA.out hn ?_ ?_).mono ?_; (repeat (first | exact Keeps.refl _ _ | assumption | apply Keeps.drew | apply Keeps.drewN | apply Keeps.alloc | (refine Keeps.trans ?_ (by assumption) (fun _ _ h => h)))); (repeat (first | exact Keeps.refl _ _ | assumption | apply Keeps.drew | apply Keeps.drewN | apply Keeps.alloc | (refine Keeps.trans ?_ (by assumption) (fun _ _ h => h)))); rintro e ws ⟨rfl, hks⟩)
      | (go_at_call 21; refine (ramOf_at _ HB.out ?_).mono ?_; (repeat (first | exact Keeps.refl _ _ | assumption | apply Keeps.drew | apply Keeps.drewN | apply Keeps.alloc | (refine Keeps.trans ?_ (by assumption) (fun _ _ h => h)))); rintro e w' ⟨rfl, rfl⟩)
      | (go_at_call 12; refine (words_at _ HB.out ?_).mono ?_; (repeat (first | exact Keeps.refl _ _ | assumption | apply Keeps.drew | apply Keeps.drewN | apply Keeps.alloc | (refine Keeps.trans ?_ (by assumption) (fun _ _ h => h)))); rintro e wx ⟨ga, rfl, hra, hkx⟩)
      | (go_at_call 15; refine (alike_at ga wb s.m wx _ hra HW.out ?_ ?_).mono ?_; (repeat (first | exact Keeps.refl _ _ | assumption | apply Keeps.drew | apply Keeps.drewN | apply Keeps.alloc | (refine Keeps.trans ?_ (by assumption) (fun _ _ h => h)))); (repeat (first | exact Keeps.refl _ _ | assumption | apply Keeps.drew | apply Keeps.drewN | apply Keeps.alloc | (refine Keeps.trans ?_ (by assumption) (fun _ _ h => h)))); rintro e wy ⟨rfl, hky⟩))
  rename_i hh
  have hK := hh.1
  clear hh
  go_wp2
  go_ret
  exact ⟨rfl, hK⟩
end Go.Proofs.YtchleihlnpplkaaDoor
