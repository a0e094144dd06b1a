
/- The walks of (*Bus).Output, Lamp, Ram, Trace, and of bused. -/
import Derived.Test.YtlbdkcnbgdmpaaaDoorBusStore
import Derived.Laws.IdiomStrings
namespace Go.Proofs.YtlbdkcnbgdmpaaaDoor
open Go.RowKit Go.Deep
set_option linter.unusedVariables false

/-- bytes as cells -/
def byteVals (l : List UInt8) : List Value := l.map fun b => .int .u8 (b.toNat : Int)
theorem byteVals_add (l : List UInt8) (v : Int) : byteVals l ++ [.int .u8 (v % 256)] = byteVals (l ++ [UInt8.ofNat (v % 256).toNat]) := by
  have h : (((v % 256).toNat % 256 : Nat) : Int) = v % 256 := by omega
  simp [byteVals, h]

set_option maxHeartbeats 1000000 in
theorem output_any (b r : Nat) (ov : Value) (on : Nat) (l : List UInt8) (lamp : Int) (tv : Value) (tn : Nat) (tb : List Value) (w : World) (B : BusAt w b r ov on (byteVals l) lamp tv tn tb) :
    Calls Tryd.prog 29 #[.pointer (some ⟨b, 0, none⟩)] w fun e w' => e = .returned (.string ⟨l.toArray⟩) ∧ w = w' := by
  have hc1 : w.cell? ⟨b, 1, none⟩ = some ov := by simp [World.cell?, B.box]
  have hl : on = l.length := by simpa [byteVals] using B.out.1.symm
  subst hl
  have hcv : (convert 69 9 ov).run Tryd.prog w = .ok (.string ⟨l.toArray⟩) w := by
    have hct := fun g j u => World.ownsRow.cells B.out (g := g) (j := j) (u := u)
    rcases B.out.2 with ⟨h1, h2⟩ | ⟨g, cap, cur, h1, _⟩
    · have : l = [] := List.eq_nil_of_length_eq_zero h2
      subst this
      rw [h1, run_convert_bytes_string w 69 9 5 none 0 0 Tryd.underlying69 Tryd.underlying5 Tryd.underlying9]
      simp only [Conv.bytesToString, Sem.run_pure]
      rfl
    · rw [h1]
      refine run_convert_bytes_back w 69 9 5 ⟨g, 0, none⟩ cap l Tryd.underlying69 Tryd.underlying5 Tryd.underlying9 fun j hj => ?_
      exact hct g j _ (by rw [h1]; rfl) (by simp [byteVals, hj])
  obtain ⟨A', cap', rfl⟩ := owns_slice B.out
  go_enter Tryd.func29, Tryd.ntmps29
  go_wp2_with fail
  go_ret
  exact ⟨rfl, rfl⟩
theorem ramOf_any (b r : Nat) (w : World) (hb : w.cell? ⟨b, 0, none⟩ = some (.pointer (some ⟨r, 0, none⟩))) :
    Calls Tryd.prog 24 #[.pointer (some ⟨b, 0, none⟩)] w fun e w' => e = .returned (.pointer (some ⟨r, 0, none⟩)) ∧ w = w' := by
  go_enter Tryd.func24, Tryd.ntmps24
  go_wp2_with fail
  go_ret
  exact ⟨rfl, rfl⟩

/-- every cell of a row is one cell -/
def oneCells (tb : List Value) : Prop := ∀ u ∈ tb, u.oneCell' = true
theorem oneCells.add {tb : List Value} (h : oneCells tb) (c : Int) (s : Bool) (a v : Int) : oneCells (tb ++ accC c s a v) := by
  intro u hu
  rcases List.mem_append.1 hu with h1 | h1
  · exact h u h1
  · simp [accC] at h1
    rcases h1 with rfl | rfl | rfl | rfl <;> rfl
set_option maxRecDepth 100000 in
set_option maxHeartbeats 2000000 in
theorem traceClone_any (tv : Value) (tn : Nat) (tb : List Value) (w : World) (ho : w.ownsRow 0 99 4 tv tn tb) (hn : tn < 1000000) (h1 : oneCells tb) :
    Calls Tryd.prog 44 #[tv] w fun e w' => ∃ v', e = .returned v' ∧ w'.ownsRow w.heap.size 99 4 v' tn tb ∧ Keeps (fun _ => False) w w' := by
  obtain ⟨i0, hi, hz0, hz1, hz2⟩ := info_parts Tryd.info_acc
  have hct := fun g j u => World.ownsRow.cells ho (g := g) (j := j) (u := u)
  have hlen := ho.1
  rcases ho.2 with ⟨h3, h4⟩ | ⟨g, cp, cur, h3, _⟩
  · subst h3; subst h4
    have : tb = [] := List.eq_nil_of_length_eq_zero (by simpa using ho.1)
    subst this
    have hq := fun w => Lib.run_eql_slice_nil (P := Tryd.prog) w 66 99 none 0 0 0 0 Tryd.underlying66
    go_enter Tryd.func44, Tryd.ntmps44
    go_wp2_with fail
    go_ret
    exact ⟨_, rfl, World.ownsRow_nil _ _ _ _, Keeps.refl _ _⟩
  · subst h3
    have hq := fun w => Lib.run_eql_slice_nil (P := Tryd.prog) w 66 99 (some ⟨g, 0, none⟩) tn cp 0 0 Tryd.underlying66
    have HN := Lib.hid (show ∀ j u, tb[j]? = some u → (w.alloc (.cells #[] 99)).cell? ((⟨g, 0, none⟩ : Addr).add j) = some u from fun j u hu => by
      have := hct g j u rfl hu
      rw [Addr.add_lit] at this ⊢
      exact cell_alloc this _)
    have hmx : 0 + tn ≤ maxLen := by unfold maxLen; omega
    go_enter Tryd.func44, Tryd.ntmps44
    go_wp2_with (at_builtin; go_loud (refine wpList_append_own _ rfl _ _ 66 rfl w.heap.size 99 i0 _ 4 24 Tryd.underlying66 hi hz0 hz1 hz2 rfl (by decide) (.slice (some ⟨w.heap.size, 0, none⟩) 0 0) 0 [] rfl ?c0 ⟨g, 0, none⟩ tn cp tb rfl hlen HN.out h1 hmx (by omega) ?c5 ?c6))
    case c0 => exact ⟨rfl, .inr ⟨w.heap.size, 0, #[], rfl, Nat.le_refl _, blk_alloc_new _ _, Nat.le_refl _, Nat.zero_le _, rfl, rfl⟩⟩
    case c5 => simp
    case c6 =>
      intro v' w1 hown hgrow hnil
      obtain ⟨A', cap', rfl⟩ := owns_slice hown
      have hK : Keeps (fun _ => False) w w1 := ((Keeps.refl _ w).alloc (.cells #[] 99)).grown hgrow (fun k hk => by simp [Value.ownBlock] at hk; omega)
      go_wp2
      go_ret
      exact ⟨_, rfl, hown, hK⟩
theorem trace_any (b r : Nat) (ov : Value) (on : Nat) (ob : List Value) (lamp : Int) (tv : Value) (tn : Nat) (tb : List Value) (w : World) (B : BusAt w b r ov on ob lamp tv tn tb) (hn : tn < 1000000) (h1 : oneCells tb) :
    Calls Tryd.prog 31 #[.pointer (some ⟨b, 0, none⟩)] w fun e w' => ∃ v', e = .returned v' ∧ w'.ownsRow w.heap.size 99 4 v' tn tb ∧ Keeps (fun _ => False) w w' := by
  have hc1 : w.cell? ⟨b, 3, none⟩ = some tv := by simp [World.cell?, B.box]
  obtain ⟨A', cap', rfl⟩ := owns_slice B.tr
  go_enter Tryd.func31, Tryd.ntmps31
  go_wp2_with fail
  refine (traceClone_any _ tn tb _ B.tr hn h1).mono ?_
  rintro e w' ⟨v', rfl, ho, hk⟩
  obtain ⟨A2, cap2, rfl⟩ := owns_slice ho
  go_wp2_with fail
  go_ret
  exact ⟨_, rfl, ho, hk⟩
end Go.Proofs.YtlbdkcnbgdmpaaaDoor
