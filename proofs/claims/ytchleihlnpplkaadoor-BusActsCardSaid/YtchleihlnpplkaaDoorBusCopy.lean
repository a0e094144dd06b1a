/- The walk of (*Bus).Copy. -/
import Derived.Test.YtchleihlnpplkaaDoorAsBus
import Derived.Deep.RegionHeld3
namespace Go.Proofs.YtchleihlnpplkaaDoor
open Go.RowKit Go.Deep
set_option linter.unusedVariables false

theorem owns_base {w : World} {b b' : Nat} {e : TypeId} {size : Nat} {v : Value} {n : Nat} {xs : List Value} (h : w.ownsRow b e size v n xs) (hb : b' ≤ b) : w.ownsRow b' e size v n xs := ownsRow_base h hb
section
variable {b r pb pw ph cp : Nat} {ov tv : Value} {O : Nat → Prop} {w : World} {s : Sb}
theorem ramCopy_at (wc : World) (h : BIn b r pb pw ph cp ov tv O w s) (hk : Keeps (fun _ => False) w wc) :
    Calls Tryd.prog 13 #[.pointer (some ⟨r, 0, none⟩)] wc (Copied s.m #[] #[] 0 0 wc) := by
  have h2 := h.keep hk (fun _ _ h => h)
  exact copy_any r pb pw ph _ s.m #[] #[] 0 0 wc h2.ram h2.watch h2.hits
theorem traceClone_at (wc : World) (h : BIn b r pb pw ph cp ov tv O w s) (hk : Keeps (fun _ => False) w wc) (hn : s.tn < 1000000) :
    Calls Tryd.prog 44 #[tv] wc fun e w' => ∃ A cap, e = .returned (.slice A s.tn cap) ∧ w'.ownsRow wc.heap.size 83 4 (.slice A s.tn cap) s.tn s.tr ∧ Keeps (fun _ => False) wc w' :=
  (traceClone_any tv s.tn s.tr wc (h.keep hk (fun _ _ h => h)).bus.tr hn h.acc.one).mono fun e w' ⟨v', he, ho, hk⟩ => by
    obtain ⟨A, cap, rfl⟩ := owns_slice ho
    exact ⟨A, cap, he, ho, hk⟩
end
set_option maxRecDepth 100000 in
set_option maxHeartbeats 2000000 in
theorem outClone_any (tv : Value) (tn : Nat) (tb : List Value) (w : World) (ho : w.ownsRow 0 5 1 tv tn tb) (hn : tn < 1000000) (h1 : oneCells tb) :
    Calls Tryd.prog 39 #[tv] w fun e w' => ∃ v', e = .returned v' ∧ w'.ownsRow w.heap.size 5 1 v' tn tb ∧ Keeps (fun _ => False) w w' := by
  obtain ⟨i0, hi, hz0, hz1, hz2⟩ := info_parts Tryd.info_byte
  have hct := fun g j u => World.ownsRow.cells ho (g := g) (j := j) (u := u)
  have hlen := ho.1
  rcases ho.2 with ⟨h3, h4⟩ | ⟨g, cp, cur, h3, _⟩
  · subst h3; subst h4
    have : tb = [] := List.eq_nil_of_length_eq_zero (by simpa using ho.1)
    subst this
    have hq := fun w => Lib.run_eql_slice_nil (P := Tryd.prog) w 72 5 none 0 0 0 0 Tryd.underlying72
    go_enter Tryd.func39, Tryd.ntmps39
    go_wp2_with fail
    go_ret
    exact ⟨_, rfl, World.ownsRow_nil _ _ _ _, Keeps.refl _ _⟩
  · subst h3
    have hq := fun w => Lib.run_eql_slice_nil (P := Tryd.prog) w 72 5 (some ⟨g, 0, none⟩) tn cp 0 0 Tryd.underlying72
    have HN := Lib.hid (show ∀ j u, tb[j]? = some u → (w.alloc (.cells #[] 5)).cell? ((⟨g, 0, none⟩ : Addr).add j) = some u from fun j u hu => by
      have := hct g j u rfl hu
      rw [Addr.add_lit] at this ⊢
      exact cell_alloc this _)
    have hmx : 0 + tn ≤ maxLen := by unfold maxLen; omega
    go_enter Tryd.func39, Tryd.ntmps39
    go_wp2_with (at_builtin; go_loud (refine wpList_append_own _ rfl _ _ 72 rfl w.heap.size 5 i0 _ 1 1 Tryd.underlying72 hi hz0 hz1 hz2 rfl (by decide) (.slice (some ⟨w.heap.size, 0, none⟩) 0 0) 0 [] rfl ?c0 ⟨g, 0, none⟩ tn cp tb rfl hlen HN.out h1 hmx (by omega) ?c5 ?c6))
    case c0 => exact ⟨rfl, .inr ⟨w.heap.size, 0, #[], rfl, Nat.le_refl _, blk_alloc_new _ _, Nat.le_refl _, Nat.zero_le _, rfl, rfl⟩⟩
    case c5 => simp
    case c6 =>
      intro v' w1 hown hgrow hnil
      obtain ⟨A', cap', rfl⟩ := owns_slice hown
      have hK : Keeps (fun _ => False) w w1 := ((Keeps.refl _ w).alloc (.cells #[] 5)).grown hgrow (fun k hk => by simp [Value.ownBlock] at hk; omega)
      go_wp2
      go_ret
      exact ⟨_, rfl, hown, hK⟩
theorem byteVals_one (l : List UInt8) : oneCells (byteVals l) := by
  intro u hu
  obtain ⟨x, _, rfl⟩ := List.mem_map.1 hu
  rfl
theorem outClone_at {b r pb pw ph cp : Nat} {ov tv : Value} {O : Nat → Prop} {w : World} {s : Sb} (wc : World) (h : BIn b r pb pw ph cp ov tv O w s) (hk : Keeps (fun _ => False) w wc) (hn : s.l.length < 1000000) :
    Calls Tryd.prog 39 #[ov] wc fun e w' => ∃ A cap, e = .returned (.slice A s.l.length cap) ∧ w'.ownsRow wc.heap.size 5 1 (.slice A s.l.length cap) s.l.length (byteVals s.l) ∧ Keeps (fun _ => False) wc w' :=
  (outClone_any ov s.l.length (byteVals s.l) wc (h.keep hk (fun _ _ h => h)).bus.out hn (byteVals_one s.l)).mono fun e w' ⟨v', he, ho, hk⟩ => by
    obtain ⟨A, cap, rfl⟩ := owns_slice ho
    exact ⟨A, cap, he, ho, hk⟩

theorem lt_own {w : World} {base : Nat} {e : TypeId} {size : Nat} {v : Value} {n : Nat} {xs : List Value} (h : w.ownsRow base e size v n xs) : ∀ k, v.ownBlock = some k → base ≤ k ∧ k < w.heap.size := fun k hk => h.lt k hk

theorem busCopy_end {w wa wb wc : World} {r pb pw ph cp : Nat} {v1 v2 : Value} {s : Sb} (h0 : Keeps (fun _ => False) w wa) (hR : RamAt wa r pb pw ph cp s.m) (h1 : wa.heap[pw]? = some (.map #[] 0)) (h2 : wa.heap[ph]? = some (.map #[] 0)) (hl : w.heap.size ≤ r ∧ w.heap.size ≤ pb ∧ w.heap.size ≤ pw ∧ w.heap.size ≤ ph)
    (hb : wb.ownsRow wa.heap.size 5 1 v1 s.l.length (byteVals s.l)) (hkb : Keeps (fun _ => False) wa wb) (hc : wc.ownsRow wb.heap.size 83 4 v2 s.tn s.tr) (hkc : Keeps (fun _ => False) wb wc) (hlamp : 0 ≤ s.lamp ∧ s.lamp < 4294967296) (hacc : AccRow s.tr s.tn) :
    ∃ O2, BInv wc.heap.size O2 (wc.alloc (.cells #[.pointer (some ⟨r, 0, none⟩), v1, .int .u32 s.lamp, v2] 85)) s ∧ ∀ k, O2 k → w.heap.size ≤ k := by
  have ka := (Keeps.refl (fun _ => False) wc).alloc (.cells #[.pointer (some ⟨r, 0, none⟩), v1, .int .u32 s.lamp, v2] 85)
  have k1 : Keeps (fun _ => False) wb (wc.alloc (.cells #[.pointer (some ⟨r, 0, none⟩), v1, .int .u32 s.lamp, v2] 85)) := hkc.trans ka (fun _ _ h => h)
  have k2 : Keeps (fun _ => False) wa (wc.alloc (.cells #[.pointer (some ⟨r, 0, none⟩), v1, .int .u32 s.lamp, v2] 85)) := hkb.trans k1 (fun _ _ h => h)
  have l1 := (Array.getElem?_eq_some_iff.1 hR.box).1
  have l2 := hR.bytes.lt
  have l3 := lt_map h1
  have l4 := lt_map h2
  have z0 := h0.size
  have z1 := hkb.size
  have z2 := hkc.size
  have m1 := lt_own hb
  have m2 := lt_own hc
  have o1 := ownsRow_base hb (Nat.zero_le _)
  have o2 := ownsRow_base hc (Nat.zero_le _)
  refine ⟨fun k => w.heap.size ≤ k ∧ k < wc.heap.size + 1, ⟨r, pb, pw, ph, cp, v1, v2, ?_⟩, fun k hk => hk.1⟩
  exact {
    bus := {
      box := blk_alloc_new _ _
      out := owns_keep o1 k1 (fun _ _ h => h)
      tr := owns_keep o2 ka (fun _ _ h => h)
      rng := hlamp
      ob := fun h => by have := m1 _ h; omega
      tb := fun h => by have := m2 _ h; omega
      ot := by
        cases hv : v1.ownBlock with
        | none => exact .inl rfl
        | some g => exact .inr fun e => by have := m1 _ hv; have := m2 _ e.symm; omega }
    ram := hR.keep k2 (fun h => h) (fun h => h)
    watch := k2.map h1 (fun h => h)
    hits := k2.map h2 (fun h => h)
    own := by omega
    own1 := fun k hk => by have := m1 _ hk; omega
    own2 := fun k hk => by have := m2 _ hk; omega
    sep := by omega
    lt := fun k hk => by simp; omega
    acc := hacc }

set_option maxRecDepth 100000 in
set_option maxHeartbeats 4000000 in
theorem busCopy_any (b : Nat) (O : Nat → Prop) (s : Sb) (w : World) (hB : BInv b O w s) (hl : s.l.length < 1000000) (hn : s.tn < 1000000) :
    Calls Tryd.prog 26 #[.pointer (some ⟨b, 0, none⟩)] w fun e w' => ∃ b2 O2, e = .returned (.pointer (some ⟨b2, 0, none⟩)) ∧ BInv b2 O2 w' s ∧ Keeps (fun _ => False) w w' ∧ ∀ k, O2 k → w.heap.size ≤ k := by
  obtain ⟨r, pb, pw, ph, cp, ov, tv, hB⟩ := hB
  obtain ⟨A1, cap1, rfl⟩ := owns_slice hB.bus.out
  obtain ⟨A2, cap2, rfl⟩ := owns_slice hB.bus.tr
  have c0 : w.cell? ⟨b, 0, none⟩ = some (.pointer (some ⟨r, 0, none⟩)) := by simp [World.cell?, hB.bus.box]
  have c1 : w.cell? ⟨b, 1, none⟩ = some (.slice A1 s.l.length cap1) := by simp [World.cell?, hB.bus.box]
  have c2 : w.cell? ⟨b, 2, none⟩ = some (.int .u32 s.lamp) := by simp [World.cell?, hB.bus.box]
  have c3 : w.cell? ⟨b, 3, none⟩ = some (.slice A2 s.tn cap2) := by simp [World.cell?, hB.bus.box]
  have HB := Lib.hid hB
  clear hB
  go_enter Tryd.func26, Tryd.ntmps26
  go_wp2_with fail
  go_region_held3 (fun w' => Keeps (fun _ => False) w w' ∧ w'.cell? ⟨b, 0, none⟩ = some (.pointer (some ⟨r, 0, none⟩)) ∧ w'.cell? ⟨b, 1, none⟩ = some (.slice A1 s.l.length cap1) ∧ w'.cell? ⟨b, 2, none⟩ = some (.int .u32 s.lamp) ∧ w'.cell? ⟨b, 3, none⟩ = some (.slice A2 s.tn cap2))
    (first | (refine ⟨?_, ?_, ?_, ?_, ?_⟩ <;> first | ((repeat (first | exact Keeps.refl _ _ | assumption | apply Keeps.drew | apply Keeps.drewN | apply Keeps.alloc | (refine Keeps.trans ?_ (by assumption) (fun _ _ h => h)))); done) | (refine Keeps.cell' (S := fun _ => False) (w := w) ?_ (by assumption) (fun f => f); (repeat (first | exact Keeps.refl _ _ | assumption | apply Keeps.drew | apply Keeps.drewN | apply Keeps.alloc | (refine Keeps.trans ?_ (by assumption) (fun _ _ h => h)))); done)) | (trace_state; fail))
    (first
      | (go_at_call 13; refine (ramCopy_at _ HB.out ?_).mono ?_; (repeat (first | exact Keeps.refl _ _ | assumption | apply Keeps.drew | apply Keeps.drewN | apply Keeps.alloc | (refine Keeps.trans ?_ (by assumption) (fun _ _ h => h)))); rintro e wa ⟨r2, pb2, pw2, ph2, cp2, rfl, ha1, ha2, ha3, ha4, hka⟩)
      | (go_at_call 39; refine (outClone_at _ HB.out ?_ hl).mono ?_; (repeat (first | exact Keeps.refl _ _ | assumption | apply Keeps.drew | apply Keeps.drewN | apply Keeps.alloc | (refine Keeps.trans ?_ (by assumption) (fun _ _ h => h)))); rintro e wb ⟨A3, cap3, rfl, hb1, hkb⟩)
      | (go_at_call 44; refine (traceClone_at _ HB.out ?_ hn).mono ?_; (repeat (first | exact Keeps.refl _ _ | assumption | apply Keeps.drew | apply Keeps.drewN | apply Keeps.alloc | (refine Keeps.trans ?_ (by assumption) (fun _ _ h => h)))); rintro e wc ⟨A4, cap4, rfl, hc1, hkc⟩))
  rename_i hh
  have hK := hh.1
  clear hh
  go_wp2
  go_ret
  obtain ⟨O2, h1, h2⟩ := busCopy_end hka ha1 ha2 ha3 ha4 hb1 hkb hc1 hkc HB.out.bus.rng HB.out.acc
  exact ⟨_, O2, rfl, h1, hK, h2⟩
end Go.Proofs.YtchleihlnpplkaaDoor
