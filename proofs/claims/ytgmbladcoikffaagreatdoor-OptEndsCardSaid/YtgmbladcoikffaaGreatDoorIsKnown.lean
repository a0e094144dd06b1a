
/- The walks of the reference's isKnown. -/
import Derived.Test.YtgmbladcoikffaaGreatDoorFacts
namespace Go.Proofs.YtgmbladcoikffaaGreatDoor
open Go.RowKit Go.Deep
set_option linter.unusedVariables false
set_option linter.unusedSimpArgs false

theorem learn_other (f : Ir.Facts) (o : Ir.Op) (x : Int) (h : Ir.writes o ≠ x) : Ir.learn f o x = f x := by
  unfold Ir.learn
  split
  · rfl
  · exact if_neg (Ne.symm h)
theorem facts_stepk (l : List Ir.Op) (i : Nat) (hi : i < l.length) : Ir.factsOf (l.take (i + 1)) = Ir.learn (Ir.factsOf (l.take i)) (l.getD i Ir.nop) := by
  unfold Ir.factsOf
  have : l.getD i Ir.nop = l[i] := by simp [List.getD, hi]
  rw [List.take_succ_eq_append_getElem hi, List.foldl_append, this]
  rfl
theorem facts_same (l : List Ir.Op) (x : Int) (i : Nat) : ∀ k, i ≤ k → k ≤ l.length → (∀ j, i ≤ j → j < k → Ir.writes (l.getD j Ir.nop) ≠ x) → Ir.factsOf (l.take k) x = Ir.factsOf (l.take i) x := by
  intro k
  induction k with
  | zero => intro h _ _; obtain rfl : i = 0 := by omega
            rfl
  | succ k ih =>
    intro h1 h2 h3
    by_cases e : i = k + 1
    · rw [e]
    · rw [facts_stepk l k (by omega), learn_other _ _ _ (h3 k (by omega) (by omega))]
      exact ih (by omega) (by omega) (fun j hj hk => h3 j hj (by omega))
theorem known_found (l : List Ir.Op) (x : Int) (p : Nat) (hp : p < l.length) (hx : x ≠ 0) (hw : Ir.writes (l.getD p Ir.nop) = x) (h : ∀ j, p + 1 ≤ j → j < l.length → Ir.writes (l.getD j Ir.nop) ≠ x) :
    (Ir.fof (Ir.factsOf l) x).isSome = (Ir.kn (l.getD p Ir.nop).k == 1) := by
  have e := facts_same l x (p + 1) l.length (by omega) (Nat.le_refl _) h
  rw [List.take_length] at e
  rw [show Ir.fof (Ir.factsOf l) x = Ir.factsOf l x from if_neg hx, e, facts_stepk l p hp]
  unfold Ir.learn
  rw [if_neg (by rw [hw]; exact hx)]
  simp only [hw, if_true]
  by_cases h1 : Ir.kn (l.getD p Ir.nop).k = 1
  · rw [if_pos h1, h1]; rfl
  · rw [if_neg h1]
    have : (Ir.kn (l.getD p Ir.nop).k == 1) = false := by simpa using h1
    rw [this]; rfl
theorem known_none (l : List Ir.Op) (x : Int) (hx : x ≠ 0) (h : ∀ j, j < l.length → Ir.writes (l.getD j Ir.nop) ≠ x) : (Ir.fof (Ir.factsOf l) x).isSome = false := by
  have e := facts_same l x 0 l.length (Nat.zero_le _) (Nat.le_refl _) (fun j _ hj => h j hj)
  rw [List.take_length] at e
  rw [show Ir.fof (Ir.factsOf l) x = Ir.factsOf l x from if_neg hx, e]
  rfl
set_option maxHeartbeats 2000000 in
set_option maxRecDepth 100000 in
theorem isKnown_any (A : Option Addr) (n cap : Nat) (l : List Ir.Op) (x : Int) (w : World) (V : OpsAt w A n cap l) (hc : cap ≤ 9223372036854775807) :
    Calls Tryz.prog 64 #[.slice A n cap, .int .i64 x] w fun e w' => e = .returned (.bool (Ir.fof (Ir.factsOf l) x).isSome) ∧ Keeps (fun _ => False) w w' := by
  by_cases hx : x = 0
  · subst hx
    rw [show (Ir.fof (Ir.factsOf l) 0).isSome = true from rfl]
    go_enter Tryz.func64, Tryz.ntmps64
    go_wp2_with fail
    go_ret
    exact ⟨rfl, Keeps.refl _ _⟩
  have hx0 : (x == 0) = false := by simpa using hx
  have HX := Lib.hid hx
  have HV := Lib.hid V
  have hn := V.le
  have HL := Lib.hid V.len
  have HFN := Lib.hid (fun p hp hw h => known_found l x p hp hx hw h)
  have HNO := Lib.hid (fun h => known_none l x hx h)
  obtain ⟨r, hr⟩ : ∃ r, (Ir.fof (Ir.factsOf l) x).isSome = r := ⟨_, rfl⟩
  rw [hr] at HFN HNO ⊢
  clear hr V hx
  have hw1 : IntKind.i64.wrap ((n : Int) - 1) = (n : Int) - 1 := by rw [IntKind.wrap_i64]; omega
  go_enter Tryz.func64, Tryz.ntmps64
  go_wp2_with fail
  clear hw1
  go_loopw [5] (fun s5 wr => ∃ (i : Nat) (v : Int), i ≤ n ∧ v = (i : Int) - 1 ∧ s5 = .int .i64 v ∧ (∀ j, i ≤ j → j < n → Ir.writes (l.getD j Ir.nop) ≠ x) ∧ Keeps (fun _ => False) w wr) (fun s5 _ => (intOf s5 + 1).toNat)
  case atStart => exact ⟨n, _, Nat.le_refl _, rfl, rfl, fun j h1 h2 => by omega, Keeps.refl _ _⟩
  case round =>
    obtain ⟨i, v, hi, hv, rfl, hz, hK⟩ := hrel
    have HZ := Lib.hid hz
    have HK := Lib.hid hK
    clear hz
    by_cases h0 : 0 < i
    · obtain ⟨p, rfl⟩ : ∃ p, i = p + 1 := ⟨i - 1, by omega⟩
      obtain rfl : v = (p : Int) := by omega
      clear hv
      have hpn : p < n := by omega
      obtain ⟨bb, oo, rfl, e0, e1, e2, e3, e4, e5⟩ := (HV.out.quiet hK).get hpn
      have HFN2 := Lib.hid (fun hw => HFN.out p (by rw [HL.out]; exact hpn) hw (fun j h1 h2 => HZ.out j h1 (by rw [← HL.out]; exact h2)))
      have HZ2 := Lib.hid (fun (hw : Ir.writes (l.getD p Ir.nop) ≠ x) => (show ∀ j, p ≤ j → j < n → Ir.writes (l.getD j Ir.nop) ≠ x from fun j h1 h2 => by
        by_cases e : j = p
        · rw [e]; exact hw
        · exact HZ.out j (by omega) h2))
      obtain ⟨op, hop⟩ : ∃ op, l.getD p Ir.nop = op := ⟨_, rfl⟩
      rw [hop] at e0 e1 e2 e3 e4 e5 HFN2 HZ2
      clear hop hK h0
      have HWR := Lib.hid (fun w => writeOf_any op w)
      have HG := Lib.hid (show OpLies wr bb (oo + p * 6) op from ⟨e0, e1, e2, e3, e4, e5⟩)
      have h1 := is_set op.k
      obtain ⟨wt, hwt⟩ : ∃ q, Ir.writes op = q := ⟨_, rfl⟩
      rw [hwt] at HWR HFN2 HZ2
      clear hwt
      have hw2 : IntKind.i64.wrap ((p : Int) - 1) = (p : Int) - 1 := by rw [IntKind.wrap_i64]; omega
      generalize (Ir.kn op.k == 1) = p1 at *
      by_cases hwx : wt = x
      · have t1 : (wt == x) = true := by simpa using hwx
        have HR := Lib.hid (HFN2.out hwx)
        clear hwx HFN2 HZ2
        go_wp2_with fail
        refine (HWR.out _).mono ?_
        rintro e w2 ⟨rfl, hk2⟩
        obtain ⟨g0, g1, g2, g3, g4, g5⟩ := HG.out.keep hk2 (fun h => h)
        have HK2 := Lib.hid (HK.out.trans hk2 (fun _ _ h => h))
        clear e0 e1 e2 e3 e4 e5 hk2
        go_wp2_with fail
        go_ret
        exact ⟨by rw [HR.out]; rfl, HK2.out⟩
      · have t1 : (wt == x) = false := by simpa using hwx
        have HZ3 := Lib.hid (HZ2.out hwx)
        clear hwx HFN2 HZ2
        go_wp2_with fail
        refine (HWR.out _).mono ?_
        rintro e w2 ⟨rfl, hk2⟩
        have HK2 := Lib.hid (HK.out.trans hk2 (fun _ _ h => h))
        clear e0 e1 e2 e3 e4 e5 hk2
        go_wp2_with fail
        go_roundw
        case rel => exact ⟨p, _, by omega, rfl, rfl, HZ3.out, HK2.out⟩
        case measure => first | (simp [intOf]; done) | (simp [intOf]; omega)
    · obtain rfl : i = 0 := by omega
      have t0 : decide (0 ≤ v) = false := decide_eq_false (by omega)
      have HR := Lib.hid (HNO.out (fun j hj => HZ.out j (Nat.zero_le _) (by rw [← HL.out]; exact hj)))
      clear hv
      go_wp2_with fail
      go_ret
      exact ⟨by rw [HR.out]; rfl, HK.out⟩
end Go.Proofs.YtgmbladcoikffaaGreatDoor
