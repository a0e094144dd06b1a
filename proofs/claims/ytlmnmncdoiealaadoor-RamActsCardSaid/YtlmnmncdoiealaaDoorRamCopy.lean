/- The walks of slices.Clone over bytes, maps.Clone, and (*Ram).Copy. -/
import Derived.Test.YtlmnmncdoiealaaDoorStored
import Derived.Deep.RegionHeld3
import Derived.Laws.Externs
import Derived.MapKept
import Derived.Lib.SliceRun
namespace Go.Proofs.YtlmnmncdoiealaaDoor
open Go.RowKit Go.Deep
set_option linter.unusedVariables false

section
variable {P : Program} (w : World)
theorem run_equalIn_map_nil (d : Nat) (t k e : TypeId) (p : Option Nat) (h : P.underlying t = some (.map k e)) :
    (Op.equalIn (d + 1) t (.map p) (.map none)).run P w = .ok p.isNone w := by
  cases p <;> simp [Op.equalIn, run_underlying h]
theorem run_eql_map_none (t k e : TypeId) (p : Option Nat) (h : P.underlying t = some (.map k e)) :
    (binOp .eql t (.map p) (.map none)).run P w = .ok (.bool p.isNone) w := by
  simp only [binOp]
  simp [show Op.equal t (.map p) (.map none) = Op.equalIn (9999 + 1) t (.map p) (.map none) from rfl, run_equalIn_map_nil w 9999 t k e p h]
theorem run_typeAssert_map (t xT k e : TypeId) (v : Value) (h : P.underlying t = some (.map k e)) : (Instr.typeAssert (.iface t v) xT t false).run P w = .ok v w := by
  simp [Instr.typeAssert, run_underlying h, go_sem, Result.andThen]
theorem run_maps_clone {r : Nat} {es : Array MapEntry} {clock : Nat} (t : TypeId) (hb : w.heap[r]? = some (.map es clock)) :
    (Extern.MapsClone.clone #[.iface t (.map (some r))]).run P w = .ok (.iface t (.map (some w.heap.size))) (w.alloc (.map es clock)) := by
  have e : Extern.MapsClone.clone #[.iface t (.map (some r))] = (getObj r >>= fun o => match o with
      | .map entries clock => (newObj (.map entries clock) >>= fun n => pure (.iface t (.map (some n))))
      | _ => stuck "maps.clone: a map expected") := rfl
  rw [e]
  simp [MapKept.run_getObj_map hb, Result.andThen, go_sem]
end

set_option maxRecDepth 100000 in
set_option maxHeartbeats 2000000 in
theorem mapClone_any (b : Nat) (es : Array MapEntry) (clock : Nat) (w : World) (hb : w.heap[b]? = some (.map es clock)) :
    Calls Tryd.prog 49 #[.map (some b)] w fun e w' => e = .returned (.map (some w.heap.size)) ∧ w.alloc (.map es clock) = w' := by
  have hq := fun w => run_eql_map_none (P := Tryd.prog) w 84 _ _ (some b) Tryd.underlying84
  go_enter Tryd.func49, Tryd.ntmps49
  go_wp2
  rw [run_callFunc_extern Tryd.func65 (by kernel_rfl) (by kernel_rfl) (by kernel_rfl) (e := Extern.MapsClone.clone) (by kernel_rfl), run_maps_clone w 84 hb]
  simp only [Result.andThen]
  rw [Oper.upon_value]
  go_wp2
  rw [run_typeAssert_map _ 84 20 _ _ _ Tryd.underlying84]
  simp only [Result.andThen]
  rw [Oper.upon_value]
  go_wp2
  go_ret
  exact ⟨rfl, rfl⟩

/-- what Clone leaves: a row of its own with the same cells -/
def Cloned (n : Nat) (f : Nat → Value) (w : World) (e : Ending) (w' : World) : Prop :=
  ∃ g cap, e = .returned (.slice (some ⟨g, 0, none⟩) n cap) ∧ w.heap.size ≤ g ∧ n ≤ cap ∧ cap ≤ maxLen ∧ RowTo w' g 5 n f ∧ Keeps (fun _ => False) w w'

set_option maxRecDepth 100000 in
set_option maxHeartbeats 2000000 in
theorem byteClone_any (b n cp : Nat) (f : Nat → Value) (w : World) (hf : RowTo w b 5 n f) (hn2 : n ≤ 16384) (h1 : ∀ i, i < n → (f i).oneCell' = true) :
    Calls Tryd.prog 48 #[.slice (some ⟨b, 0, none⟩) n cp] w (Cloned n f w) := by
  obtain ⟨i0, hi, hz0, hz1, hz2⟩ := info_parts Tryd.info_byte
  go_enter Tryd.func48, Tryd.ntmps48
  have hq := fun w => Lib.run_eql_slice_nil (P := Tryd.prog) w 83 5 (some ⟨b, 0, none⟩) n cp 0 0 Tryd.underlying83
  have hcs := hf.alloc (.cells #[] 5)
  have HN := Lib.hid (show ∀ j u, ((List.range n).map f)[j]? = some u → (w.alloc (.cells #[] 5)).cell? ((⟨b, 0, none⟩ : Addr).add j) = some u from fun j u hu => by
    have hj : j < n := by have := (List.getElem?_eq_some_iff.1 hu).1; simpa using this
    simp [List.getElem?_range hj] at hu
    rw [Addr.add_lit, Nat.zero_add, ← hu]
    exact hcs.cell hj)
  clear hcs
  go_wp2_with (at_builtin; go_loud (refine wpList_append_own _ rfl _ _ 83 rfl w.heap.size 5 i0 (.int .u8 0) 1 1 Tryd.underlying83 hi hz0 hz1 hz2 rfl (by decide) (.slice (some ⟨w.heap.size, 0, none⟩) 0 0) 0 [] rfl ?c0 ⟨b, 0, none⟩ n cp ((List.range n).map f) rfl ?c1 HN.out ?c2 ?c3 ?c4 ?c5 ?c6))
  case c0 => exact ⟨rfl, .inr ⟨w.heap.size, 0, #[], rfl, Nat.le_refl _, blk_alloc_new _ _, Nat.le_refl _, Nat.zero_le _, rfl, rfl⟩⟩
  case c1 => simp
  case c2 =>
    intro u hu
    obtain ⟨j, hj, rfl⟩ := List.mem_map.1 hu
    exact h1 j (List.mem_range.1 hj)
  case c3 => unfold maxLen; omega
  case c4 => omega
  case c5 => simp
  case c6 =>
    intro v' w1 hown hgrow hnil
    have hv : ∃ g cap, v' = .slice (some ⟨g, 0, none⟩) n cap ∧ w.heap.size ≤ g ∧ n ≤ cap ∧ cap ≤ maxLen ∧ RowTo w1 g 5 n f := by
      rcases hown.2 with ⟨h0, _⟩ | ⟨g, cap, cur, hv, hg, hh, hnc, hcm, hsz, htk⟩
      · exact absurd h0 hnil
      · subst hv
        refine ⟨g, cap, rfl, hg, hnc, hcm, RowTo.of_owns hown fun i hi => ?_⟩
        simp [List.getElem?_range hi]
    obtain ⟨g, cap, rfl, hg, hnc, hcm, hrow⟩ := hv
    have hK : Keeps (fun _ => False) w w1 := ((Keeps.refl _ w).alloc (.cells #[] 5)).grown hgrow (fun k hk => by simp [Value.ownBlock] at hk; omega)
    go_wp2
    go_ret
    exact ⟨g, cap, rfl, hg, hnc, hcm, hrow, hK⟩

/-- a copy of a map, and no more -/
def MapCloned (es : Array MapEntry) (c : Nat) (w : World) (e : Ending) (w' : World) : Prop :=
  ∃ b, e = .returned (.map (some b)) ∧ w.heap.size ≤ b ∧ w'.heap[b]? = some (.map es c) ∧ Keeps (fun _ => False) w w'
theorem mapClone_at (b : Nat) (es : Array MapEntry) (c : Nat) (w wc : World) (hb : w.heap[b]? = some (.map es c)) (hk : Keeps (fun _ => False) w wc) :
    Calls Tryd.prog 49 #[.map (some b)] wc (MapCloned es c wc) :=
  (mapClone_any b es c wc (hk.map hb (fun f => f))).mono fun e w' ⟨he, hw⟩ => by
    subst hw
    exact ⟨_, he, Nat.le_refl _, blk_alloc_new _ _, (Keeps.refl _ _).alloc _⟩
theorem byteClone_at (b n cp : Nat) (f : Nat → Value) (w wc : World) (hf : RowTo w b 5 n f) (hn2 : n ≤ 16384) (h1 : ∀ i, i < n → (f i).oneCell' = true) (hk : Keeps (fun _ => False) w wc) :
    Calls Tryd.prog 48 #[.slice (some ⟨b, 0, none⟩) n cp] wc (Cloned n f wc) :=
  byteClone_any b n cp f wc (hk.rowTo hf (fun f => f)) hn2 h1

/-- what Copy leaves: a Ram of its own that has what the other one has -/
def Copied (m : Nat → Int) (es eh : Array MapEntry) (cw ch : Nat) (w : World) (e : Ending) (w' : World) : Prop :=
  ∃ r pb pw ph cp, e = .returned (.pointer (some ⟨r, 0, none⟩)) ∧ RamAt w' r pb pw ph cp m ∧ w'.heap[pw]? = some (.map es cw) ∧ w'.heap[ph]? = some (.map eh ch) ∧
    (w.heap.size ≤ r ∧ w.heap.size ≤ pb ∧ w.heap.size ≤ pw ∧ w.heap.size ≤ ph) ∧ Keeps (fun _ => False) w w'
theorem lt_map {w : World} {b : Nat} {es : Array MapEntry} {c : Nat} (h : w.heap[b]? = some (.map es c)) : b < w.heap.size := (Array.getElem?_eq_some_iff.1 h).1
theorem copied_end {m : Nat → Int} {es eh : Array MapEntry} {cw ch : Nat} {w W : World} {g b1 b2 cap : Nat} (hm : ∀ i, i < 16384 → 0 ≤ m i ∧ m i < 256) (hg : RowTo W g 5 16384 (fun i => .int .u8 (m i))) (h1 : W.heap[b1]? = some (.map es cw)) (h2 : W.heap[b2]? = some (.map eh ch))
    (hc : 16384 ≤ cap ∧ cap ≤ maxLen) (hs : w.heap.size ≤ g ∧ w.heap.size ≤ b1 ∧ w.heap.size ≤ b2) (hne : g ≠ b1 ∧ g ≠ b2 ∧ b1 ≠ b2) (hk : Keeps (fun _ => False) w W) :
    Copied m es eh cw ch w (.returned (.pointer (some ⟨W.heap.size, 0, none⟩))) (W.alloc (.cells #[.slice (some ⟨g, 0, none⟩) 16384 cap, .map (some b1), .map (some b2)] 86)) := by
  have l1 := lt_map h1
  have l2 := lt_map h2
  have l3 := hg.lt
  have hsz := hk.size
  refine ⟨W.heap.size, g, b1, b2, cap, rfl, ⟨blk_alloc_new _ _, hg.alloc _, ⟨hc.1, by have := hc.2; unfold maxLen at this; omega⟩, hm, by omega⟩, (blk_alloc_lt _ _ _ l1).trans h1, (blk_alloc_lt _ _ _ l2).trans h2, by omega, hk.alloc _⟩

set_option maxRecDepth 100000 in
set_option maxHeartbeats 4000000 in
theorem copy_any (r pb pw ph cp : Nat) (m : Nat → Int) (es eh : Array MapEntry) (cw ch : Nat) (w : World) (R : RamAt w r pb pw ph cp m) (hw : w.heap[pw]? = some (.map es cw)) (hh : w.heap[ph]? = some (.map eh ch)) :
    Calls Tryd.prog 24 #[.pointer (some ⟨r, 0, none⟩)] w (Copied m es eh cw ch w) := by
  have k0 : w.cell? ⟨r, 0, none⟩ = some (.slice (some ⟨pb, 0, none⟩) 16384 cp) := by simp [World.cell?, R.box]
  have k1 : w.cell? ⟨r, 1, none⟩ = some (.map (some pw)) := by simp [World.cell?, R.box]
  have k2 : w.cell? ⟨r, 2, none⟩ = some (.map (some ph)) := by simp [World.cell?, R.box]
  have HM := Lib.hid R.rng
  have HR := Lib.hid R.bytes
  have HW := Lib.hid hw
  have HH := Lib.hid hh
  have HP := Lib.hid R.apart
  clear R hw hh
  go_enter Tryd.func24, Tryd.ntmps24
  go_wp2_with fail
  have HK0 := Keeps.refl (fun _ => False) w
  go_region_held3 (fun w' => Keeps (fun _ => False) w w' ∧ w'.cell? ⟨r, 0, none⟩ = some (.slice (some ⟨pb, 0, none⟩) 16384 cp) ∧ w'.cell? ⟨r, 1, none⟩ = some (.map (some pw)) ∧ w'.cell? ⟨r, 2, none⟩ = some (.map (some ph)))
    (first | (refine ⟨?_, ?_, ?_, ?_⟩ <;> first | ((repeat (first | exact Keeps.refl _ _ | assumption | apply Keeps.drew | apply Keeps.drewN | apply Keeps.alloc | (refine Keeps.trans ?_ (by assumption) (fun _ _ h => h)))); done) | (refine Keeps.cell' (S := fun _ => False) (w := _) ?_ (by assumption) (fun f => f); (repeat (first | exact Keeps.refl _ _ | assumption | apply Keeps.drew | apply Keeps.drewN | apply Keeps.alloc | (refine Keeps.trans ?_ (by assumption) (fun _ _ h => h)))); done)) | (trace_state; fail))
    (first
      | (go_at_call 48; refine (byteClone_at pb 16384 cp _ w _ HR.out (Nat.le_refl _) (fun _ _ => rfl) ?_).mono ?_; (repeat (first | exact Keeps.refl _ _ | assumption | apply Keeps.drew | apply Keeps.drewN | apply Keeps.alloc | (refine Keeps.trans ?_ (by assumption) (fun _ _ h => h)))); rintro e wa ⟨ga, ca, rfl, hga, hca, hca', hra, hka⟩)
      | (go_at_call_of 49 (Value.map (some pw)); refine (mapClone_at pw es cw w _ HW.out ?_).mono ?_; (repeat (first | exact Keeps.refl _ _ | assumption | apply Keeps.drew | apply Keeps.drewN | apply Keeps.alloc | (refine Keeps.trans ?_ (by assumption) (fun _ _ h => h)))); rintro e wb ⟨gb, rfl, hgb, hmb, hkb⟩)
      | (go_at_call_of 49 (Value.map (some ph)); refine (mapClone_at ph eh ch w _ HH.out ?_).mono ?_; (repeat (first | exact Keeps.refl _ _ | assumption | apply Keeps.drew | apply Keeps.drewN | apply Keeps.alloc | (refine Keeps.trans ?_ (by assumption) (fun _ _ h => h)))); rintro e wc ⟨gc, rfl, hgc, hmc, hkc⟩))
  go_wp2
  go_ret
  have l1 := hra.lt
  have l2 := lt_map hmb
  have e0 : w.drew.heap.size = w.heap.size := rfl
  have s1 := hka.size
  have s2 := hkb.size
  have s3 := hkc.size
  exact copied_end HM.out (hkc.rowTo (hkb.rowTo hra (fun f => f)) (fun f => f)) (hkc.map hmb (fun f => f)) hmc ⟨hca, hca'⟩ (by omega) (by omega) (by repeat (first | exact Keeps.refl _ _ | assumption | apply Keeps.drew | apply Keeps.drewN | apply Keeps.alloc | (refine Keeps.trans ?_ (by assumption) (fun _ _ h => h))))
end Go.Proofs.YtlmnmncdoiealaaDoor
