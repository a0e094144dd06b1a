
/- The walk of the reference's ReadsOf. -/
import Derived.Test.YtaflchcoddgdbaaDoorReads
import Derived.Laws.AppendOwn
import Derived.OwnWalk
import Derived.Lib.Hide
namespace Go.Proofs.YtaflchcoddgdbaaDoor
open Go.RowKit Go.Deep
set_option linter.unusedVariables false
set_option linter.unusedSimpArgs false

theorem Tryd.info_int : (Tryd.prog.info? 3).map (fun i => (i.zero, i.size, i.bytes)) = some (some (.int .i64 0), 1, 8) := by kernel_rfl
def intsL (l : List Int) : List Value := l.map (.int .i64)
/-- a row of ints of the call's own -/
def IntsOwn (w : World) (base : Nat) (l : List Int) (v : Value) : Prop := ∃ A cap, v = .slice A l.length cap ∧ w.ownsRow base 3 1 v l.length (intsL l)
theorem IntsOwn.reads {w : World} {base : Nat} {l : List Int} {v : Value} (h : IntsOwn w base l v) : ∃ A cap, v = .slice A l.length cap ∧ cap ≤ maxLen ∧ Reads w A l.length cap (fun i => .int .i64 (l.getD i 0)) := by
  obtain ⟨A, cap, rfl, h1, ⟨h2, h3⟩ | ⟨g, cap', cur, h2, h3, h4, h5, h6, h7, h8⟩⟩ := h
  · injection h2 with e1 e2 e3
    subst e1 e3
    exact ⟨none, 0, rfl, by decide, by omega, .inl rfl⟩
  · injection h2 with e1 e2 e3
    subst e1 e3
    refine ⟨_, cap, rfl, h6, h5, .inr ⟨g, 0, rfl, (Array.getElem?_eq_some_iff.1 h4).1, fun i hi => ?_⟩⟩
    have e : (cur.toList.take (l.length * 1))[i]? = (intsL l)[i]? := by rw [h8]
    rw [List.getElem?_take_of_lt (by omega)] at e
    unfold World.cell?
    rw [h4]
    simp only [Nat.zero_add]
    unfold intsL at e
    rw [List.getElem?_map, List.getElem?_eq_getElem hi] at e
    rw [List.getD_eq_getElem?_getD, List.getElem?_eq_getElem hi]
    simpa using e
/-- one more int -/
theorem IntsOwn.more {w w' : World} {base : Nat} {l : List Int} {v v' : Value} {a : Int} {n : Nat} (hn : n = l.length) (h : w'.ownsRow base 3 1 v' (n + 1) (intsL l ++ [.int .i64 a])) : IntsOwn w' base (l ++ [a]) v' := by
  subst hn
  obtain ⟨A, cap, rfl⟩ := owns_slice h
  refine ⟨A, cap, by simp, ?_⟩
  rw [show (l ++ [a]).length = l.length + 1 by simp, show intsL (l ++ [a]) = intsL l ++ [.int .i64 a] by simp [intsL]]
  exact h
theorem owns_low {w : World} {base base' : Nat} {e : TypeId} {size : Nat} {v : Value} {n : Nat} {xs : List Value} (h : w.ownsRow base e size v n xs) (hb : base' ≤ base) : w.ownsRow base' e size v n xs := by
  obtain ⟨h1, h2 | ⟨g, cap, cur, h2, h3, h4⟩⟩ := h
  · exact ⟨h1, .inl h2⟩
  · exact ⟨h1, .inr ⟨g, cap, cur, h2, Nat.le_trans hb h3, h4⟩⟩
theorem ints_cell (a : Int) : ∀ u ∈ [Value.int .i64 a], u.oneCell' = true := by
  intro u hu
  simp only [List.mem_singleton] at hu
  subst hu
  rfl
set_option maxHeartbeats 4000000 in
set_option maxRecDepth 100000 in
theorem readsOf_any (o : Ir.Op) (w : World) :
    Calls Tryd.prog 26 #[.agg (opC o)] w fun e w' => ∃ v, e = .returned v ∧ IntsOwn w' w.heap.size (Ir.reads o) v ∧ Keeps (fun _ => False) w w' := by
  obtain ⟨i0, hi, hz0, hz1, hz2⟩ := info_parts Tryd.info_int
  obtain ⟨k, d, a, b, im, t⟩ := o
  have hr : Ir.reads ⟨k, d, a, b, im, t⟩ = ((if hasL (Ir.kn k) 65 = true then [a] else []) ++ (if (hasL (Ir.kn k) 66 && !(Ir.kn k == 5)) = true then [b] else [])) ++ (if Ir.isDiv (Ir.kn k) = true then [d] else []) := by
    unfold Ir.reads
    rw [show hasL (Ir.kn k) 65 = Ir.hasA (Ir.kn k) from rfl, show hasL (Ir.kn k) 66 = Ir.hasB (Ir.kn k) from rfl, nat_beq]
    simp
  rw [hr]
  clear hr
  obtain ⟨bw, hB⟩ : ∃ B, w.heap.size = B := ⟨_, rfl⟩
  rw [hB]
  have HBW := Lib.hid hB
  clear hB
  have HF := Lib.hid (fun w => fieldsOf_any k w)
  have HIA := Lib.hid (fun w => isOf_fields (Ir.kn k) (Ir.kn_le k) 65 (.inr (.inl rfl)) w)
  have HIB := Lib.hid (fun w => isOf_fields (Ir.kn k) (Ir.kn_le k) 66 (.inr (.inr (.inl rfl))) w)
  have HD := Lib.hid (fun w => isDiv_any k w)
  have h5 := is_load k
  have HN := Lib.hid (op_new w k d a b im t 60)
  generalize hasL (Ir.kn k) 65 = pa at *
  generalize hasL (Ir.kn k) 66 = pb at *
  generalize (Ir.kn k == 5) = p5 at *
  generalize Ir.isDiv (Ir.kn k) = pd at *
  generalize fieldsB (Ir.kn k) = fb at *
  have h5n : (k.toList != [108, 111, 97, 100]) = !p5 := by rw [bne, h5]
  unfold opC
  go_enter Tryd.func26, Tryd.ntmps26
  go_upto_region 1 with fail
  obtain ⟨hV, hK⟩ := HN.out
  have hB := HBW.out
  clear HBW
  have hxl := World.block_lt_of_cell? _ _ hV.v0
  generalize w.alloc _ = w0 at *
  generalize w.heap.size = x at *
  have HV0 := Lib.hid hV
  have HK0 := Lib.hid hK
  obtain ⟨B, hBB⟩ : ∃ B, w0.heap.size = B := ⟨_, rfl⟩
  have HX := Lib.hid (show x < B ∧ bw ≤ B ∧ w.heap.size ≤ B from by have := hK.size; simp only at hxl; omega)
  have HB0 := Lib.hid (show B ≤ w0.heap.size by omega)
  have HP0 := Lib.hid (World.ownsRow_nil w0 B 3 1)
  clear hxl hBB hB
  obtain ⟨v0, v1, v2, v3, v4, v5⟩ := hV
  simp only at v0 v1 v2 v3 v4 v5
  clear hK HN

  go_wp2_with fail
  refine (HF.out _).mono ?_
  rintro e w' ⟨rfl, hw'⟩
  obtain rfl := hw'.symm
  go_wp2_with fail
  refine (HIA.out _).mono ?_
  rintro e w' ⟨rfl, hw'⟩
  obtain rfl := hw'.symm
  cases pa
  ·
    go_wp2_with fail
    refine (HIB.out _).mono ?_
    rintro e w' ⟨rfl, hw'⟩
    obtain rfl := hw'.symm
    cases pb
    ·
      go_wp2_with fail
      refine (HD.out _).mono ?_
      rintro e w' ⟨rfl, hw'⟩
      obtain rfl := hw'.symm
      cases pd
      ·
        go_wp2_with fail
        go_ret
        exact ⟨_, rfl, ⟨none, 0, rfl, owns_low HP0.out (by have := HX.out.2.1; have := HX.out.2.2; omega)⟩, HK0.out⟩
      ·
        have HQ0 := Lib.hid (show (w0.alloc (.cells #[.int .i64 d] 3)).ownsRow B 3 1 (.slice none 0 0) 0 (intsL []) from HP0.out.alloc _)
        have HS0 := Lib.hid (show B ≤ (w0.alloc (.cells #[.int .i64 d] 3)).heap.size by rw [nblk_alloc]; have := HB0.out; omega)
        have HA0 := Lib.hid ((Keeps.refl (fun _ => False) w0).alloc (.cells #[.int .i64 d] 3))
        have HC0 := Lib.hid (fun j u hj => cells_new w0 [.int .i64 d] 3 j u hj)
        go_wp2_with (at_builtin; go_loud (refine wpList_append_own _ rfl _ _ 49 rfl B 3 i0 _ 1 8 Tryd.underlying49 hi hz0 hz1 hz2 rfl (by decide) (.slice none 0 0) 0 (intsL []) rfl HQ0.out ⟨w0.heap.size, 0, none⟩ 1 1 [.int .i64 d] rfl rfl HC0.out (ints_cell d) (by decide) (by decide) HS0.out ?c0))
        case c0 =>
          intro v' w1 hown hgrow hnil
          obtain ⟨A1, cap1, rfl⟩ := owns_slice hown
          have hlt := HQ0.out.lt
          have HW1 := Lib.hid (show Keeps (fun k => B ≤ k) w0 w1 from ((HA0.out.mono (fun _ _ h => h.elim)).grown hgrow (fun k hk _ => (hlt k hk).1)))
          have HK1 := Lib.hid (show Keeps (fun _ => False) w w1 from HK0.out.trans HW1.out (fun b hb h => by have h : B ≤ b := h; have := HX.out.2.1; have := HX.out.2.2; omega))
          have HV1 := Lib.hid (HV0.out.keep HW1.out (by have := HX.out.1; omega))
          have HP1 := Lib.hid (show w1.ownsRow B 3 1 (.slice A1 1 cap1) 1 (intsL [d]) from hown)
          have HB1 := Lib.hid (Nat.le_trans HB0.out HW1.out.size)
          clear hown hgrow hnil hlt v0 v1 v2 v3 v4 v5
          obtain ⟨v0, v1, v2, v3, v4, v5⟩ := HV1.out
          simp only at v0 v1 v2 v3 v4 v5
          go_wp2_with fail
          go_ret
          exact ⟨_, rfl, ⟨A1, cap1, rfl, owns_low HP1.out (by have := HX.out.2.1; have := HX.out.2.2; omega)⟩, HK1.out⟩
    ·
      cases p5
      ·
        have HQ0 := Lib.hid (show (w0.alloc (.cells #[.int .i64 b] 3)).ownsRow B 3 1 (.slice none 0 0) 0 (intsL []) from HP0.out.alloc _)
        have HS0 := Lib.hid (show B ≤ (w0.alloc (.cells #[.int .i64 b] 3)).heap.size by rw [nblk_alloc]; have := HB0.out; omega)
        have HA0 := Lib.hid ((Keeps.refl (fun _ => False) w0).alloc (.cells #[.int .i64 b] 3))
        have HC0 := Lib.hid (fun j u hj => cells_new w0 [.int .i64 b] 3 j u hj)
        go_wp2_with (at_builtin; go_loud (refine wpList_append_own _ rfl _ _ 49 rfl B 3 i0 _ 1 8 Tryd.underlying49 hi hz0 hz1 hz2 rfl (by decide) (.slice none 0 0) 0 (intsL []) rfl HQ0.out ⟨w0.heap.size, 0, none⟩ 1 1 [.int .i64 b] rfl rfl HC0.out (ints_cell b) (by decide) (by decide) HS0.out ?c0))
        case c0 =>
          intro v' w1 hown hgrow hnil
          obtain ⟨A1, cap1, rfl⟩ := owns_slice hown
          have hlt := HQ0.out.lt
          have HW1 := Lib.hid (show Keeps (fun k => B ≤ k) w0 w1 from ((HA0.out.mono (fun _ _ h => h.elim)).grown hgrow (fun k hk _ => (hlt k hk).1)))
          have HK1 := Lib.hid (show Keeps (fun _ => False) w w1 from HK0.out.trans HW1.out (fun b hb h => by have h : B ≤ b := h; have := HX.out.2.1; have := HX.out.2.2; omega))
          have HV1 := Lib.hid (HV0.out.keep HW1.out (by have := HX.out.1; omega))
          have HP1 := Lib.hid (show w1.ownsRow B 3 1 (.slice A1 1 cap1) 1 (intsL [b]) from hown)
          have HB1 := Lib.hid (Nat.le_trans HB0.out HW1.out.size)
          clear hown hgrow hnil hlt v0 v1 v2 v3 v4 v5
          obtain ⟨v0, v1, v2, v3, v4, v5⟩ := HV1.out
          simp only at v0 v1 v2 v3 v4 v5
          go_wp2_with fail
          refine (HD.out _).mono ?_
          rintro e w' ⟨rfl, hw'⟩
          obtain rfl := hw'.symm
          cases pd
          ·
            go_wp2_with fail
            go_ret
            exact ⟨_, rfl, ⟨A1, cap1, rfl, owns_low HP1.out (by have := HX.out.2.1; have := HX.out.2.2; omega)⟩, HK1.out⟩
          ·
            have HQ1 := Lib.hid (show (w1.alloc (.cells #[.int .i64 d] 3)).ownsRow B 3 1 (.slice A1 1 cap1) 1 (intsL [b]) from HP1.out.alloc _)
            have HS1 := Lib.hid (show B ≤ (w1.alloc (.cells #[.int .i64 d] 3)).heap.size by rw [nblk_alloc]; have := HB1.out; omega)
            have HA1 := Lib.hid ((Keeps.refl (fun _ => False) w1).alloc (.cells #[.int .i64 d] 3))
            have HC1 := Lib.hid (fun j u hj => cells_new w1 [.int .i64 d] 3 j u hj)
            go_wp2_with (at_builtin; go_loud (refine wpList_append_own _ rfl _ _ 49 rfl B 3 i0 _ 1 8 Tryd.underlying49 hi hz0 hz1 hz2 rfl (by decide) (.slice A1 1 cap1) 1 (intsL [b]) rfl HQ1.out ⟨w1.heap.size, 0, none⟩ 1 1 [.int .i64 d] rfl rfl HC1.out (ints_cell d) (by decide) (by decide) HS1.out ?c1))
            case c1 =>
              intro v' w2 hown hgrow hnil
              obtain ⟨A2, cap2, rfl⟩ := owns_slice hown
              have hlt := HQ1.out.lt
              have HW2 := Lib.hid (show Keeps (fun k => B ≤ k) w1 w2 from ((HA1.out.mono (fun _ _ h => h.elim)).grown hgrow (fun k hk _ => (hlt k hk).1)))
              have HK2 := Lib.hid (show Keeps (fun _ => False) w w2 from HK1.out.trans HW2.out (fun b hb h => by have h : B ≤ b := h; have := HX.out.2.1; have := HX.out.2.2; omega))
              have HV2 := Lib.hid (HV1.out.keep HW2.out (by have := HX.out.1; omega))
              have HP2 := Lib.hid (show w2.ownsRow B 3 1 (.slice A2 2 cap2) 2 (intsL [b, d]) from hown)
              have HB2 := Lib.hid (Nat.le_trans HB1.out HW2.out.size)
              clear hown hgrow hnil hlt v0 v1 v2 v3 v4 v5
              obtain ⟨v0, v1, v2, v3, v4, v5⟩ := HV2.out
              simp only at v0 v1 v2 v3 v4 v5
              go_wp2_with fail
              go_ret
              exact ⟨_, rfl, ⟨A2, cap2, rfl, owns_low HP2.out (by have := HX.out.2.1; have := HX.out.2.2; omega)⟩, HK2.out⟩
      ·
        go_wp2_with fail
        refine (HD.out _).mono ?_
        rintro e w' ⟨rfl, hw'⟩
        obtain rfl := hw'.symm
        cases pd
        ·
          go_wp2_with fail
          go_ret
          exact ⟨_, rfl, ⟨none, 0, rfl, owns_low HP0.out (by have := HX.out.2.1; have := HX.out.2.2; omega)⟩, HK0.out⟩
        ·
          have HQ0 := Lib.hid (show (w0.alloc (.cells #[.int .i64 d] 3)).ownsRow B 3 1 (.slice none 0 0) 0 (intsL []) from HP0.out.alloc _)
          have HS0 := Lib.hid (show B ≤ (w0.alloc (.cells #[.int .i64 d] 3)).heap.size by rw [nblk_alloc]; have := HB0.out; omega)
          have HA0 := Lib.hid ((Keeps.refl (fun _ => False) w0).alloc (.cells #[.int .i64 d] 3))
          have HC0 := Lib.hid (fun j u hj => cells_new w0 [.int .i64 d] 3 j u hj)
          go_wp2_with (at_builtin; go_loud (refine wpList_append_own _ rfl _ _ 49 rfl B 3 i0 _ 1 8 Tryd.underlying49 hi hz0 hz1 hz2 rfl (by decide) (.slice none 0 0) 0 (intsL []) rfl HQ0.out ⟨w0.heap.size, 0, none⟩ 1 1 [.int .i64 d] rfl rfl HC0.out (ints_cell d) (by decide) (by decide) HS0.out ?c0))
          case c0 =>
            intro v' w1 hown hgrow hnil
            obtain ⟨A1, cap1, rfl⟩ := owns_slice hown
            have hlt := HQ0.out.lt
            have HW1 := Lib.hid (show Keeps (fun k => B ≤ k) w0 w1 from ((HA0.out.mono (fun _ _ h => h.elim)).grown hgrow (fun k hk _ => (hlt k hk).1)))
            have HK1 := Lib.hid (show Keeps (fun _ => False) w w1 from HK0.out.trans HW1.out (fun b hb h => by have h : B ≤ b := h; have := HX.out.2.1; have := HX.out.2.2; omega))
            have HV1 := Lib.hid (HV0.out.keep HW1.out (by have := HX.out.1; omega))
            have HP1 := Lib.hid (show w1.ownsRow B 3 1 (.slice A1 1 cap1) 1 (intsL [d]) from hown)
            have HB1 := Lib.hid (Nat.le_trans HB0.out HW1.out.size)
            clear hown hgrow hnil hlt v0 v1 v2 v3 v4 v5
            obtain ⟨v0, v1, v2, v3, v4, v5⟩ := HV1.out
            simp only at v0 v1 v2 v3 v4 v5
            go_wp2_with fail
            go_ret
            exact ⟨_, rfl, ⟨A1, cap1, rfl, owns_low HP1.out (by have := HX.out.2.1; have := HX.out.2.2; omega)⟩, HK1.out⟩
  ·
    have HQ0 := Lib.hid (show (w0.alloc (.cells #[.int .i64 a] 3)).ownsRow B 3 1 (.slice none 0 0) 0 (intsL []) from HP0.out.alloc _)
    have HS0 := Lib.hid (show B ≤ (w0.alloc (.cells #[.int .i64 a] 3)).heap.size by rw [nblk_alloc]; have := HB0.out; omega)
    have HA0 := Lib.hid ((Keeps.refl (fun _ => False) w0).alloc (.cells #[.int .i64 a] 3))
    have HC0 := Lib.hid (fun j u hj => cells_new w0 [.int .i64 a] 3 j u hj)
    go_wp2_with (at_builtin; go_loud (refine wpList_append_own _ rfl _ _ 49 rfl B 3 i0 _ 1 8 Tryd.underlying49 hi hz0 hz1 hz2 rfl (by decide) (.slice none 0 0) 0 (intsL []) rfl HQ0.out ⟨w0.heap.size, 0, none⟩ 1 1 [.int .i64 a] rfl rfl HC0.out (ints_cell a) (by decide) (by decide) HS0.out ?c0))
    case c0 =>
      intro v' w1 hown hgrow hnil
      obtain ⟨A1, cap1, rfl⟩ := owns_slice hown
      have hlt := HQ0.out.lt
      have HW1 := Lib.hid (show Keeps (fun k => B ≤ k) w0 w1 from ((HA0.out.mono (fun _ _ h => h.elim)).grown hgrow (fun k hk _ => (hlt k hk).1)))
      have HK1 := Lib.hid (show Keeps (fun _ => False) w w1 from HK0.out.trans HW1.out (fun b hb h => by have h : B ≤ b := h; have := HX.out.2.1; have := HX.out.2.2; omega))
      have HV1 := Lib.hid (HV0.out.keep HW1.out (by have := HX.out.1; omega))
      have HP1 := Lib.hid (show w1.ownsRow B 3 1 (.slice A1 1 cap1) 1 (intsL [a]) from hown)
      have HB1 := Lib.hid (Nat.le_trans HB0.out HW1.out.size)
      clear hown hgrow hnil hlt v0 v1 v2 v3 v4 v5
      obtain ⟨v0, v1, v2, v3, v4, v5⟩ := HV1.out
      simp only at v0 v1 v2 v3 v4 v5
      go_wp2_with fail
      refine (HIB.out _).mono ?_
      rintro e w' ⟨rfl, hw'⟩
      obtain rfl := hw'.symm
      cases pb
      ·
        go_wp2_with fail
        refine (HD.out _).mono ?_
        rintro e w' ⟨rfl, hw'⟩
        obtain rfl := hw'.symm
        cases pd
        ·
          go_wp2_with fail
          go_ret
          exact ⟨_, rfl, ⟨A1, cap1, rfl, owns_low HP1.out (by have := HX.out.2.1; have := HX.out.2.2; omega)⟩, HK1.out⟩
        ·
          have HQ1 := Lib.hid (show (w1.alloc (.cells #[.int .i64 d] 3)).ownsRow B 3 1 (.slice A1 1 cap1) 1 (intsL [a]) from HP1.out.alloc _)
          have HS1 := Lib.hid (show B ≤ (w1.alloc (.cells #[.int .i64 d] 3)).heap.size by rw [nblk_alloc]; have := HB1.out; omega)
          have HA1 := Lib.hid ((Keeps.refl (fun _ => False) w1).alloc (.cells #[.int .i64 d] 3))
          have HC1 := Lib.hid (fun j u hj => cells_new w1 [.int .i64 d] 3 j u hj)
          go_wp2_with (at_builtin; go_loud (refine wpList_append_own _ rfl _ _ 49 rfl B 3 i0 _ 1 8 Tryd.underlying49 hi hz0 hz1 hz2 rfl (by decide) (.slice A1 1 cap1) 1 (intsL [a]) rfl HQ1.out ⟨w1.heap.size, 0, none⟩ 1 1 [.int .i64 d] rfl rfl HC1.out (ints_cell d) (by decide) (by decide) HS1.out ?c1))
          case c1 =>
            intro v' w2 hown hgrow hnil
            obtain ⟨A2, cap2, rfl⟩ := owns_slice hown
            have hlt := HQ1.out.lt
            have HW2 := Lib.hid (show Keeps (fun k => B ≤ k) w1 w2 from ((HA1.out.mono (fun _ _ h => h.elim)).grown hgrow (fun k hk _ => (hlt k hk).1)))
            have HK2 := Lib.hid (show Keeps (fun _ => False) w w2 from HK1.out.trans HW2.out (fun b hb h => by have h : B ≤ b := h; have := HX.out.2.1; have := HX.out.2.2; omega))
            have HV2 := Lib.hid (HV1.out.keep HW2.out (by have := HX.out.1; omega))
            have HP2 := Lib.hid (show w2.ownsRow B 3 1 (.slice A2 2 cap2) 2 (intsL [a, d]) from hown)
            have HB2 := Lib.hid (Nat.le_trans HB1.out HW2.out.size)
            clear hown hgrow hnil hlt v0 v1 v2 v3 v4 v5
            obtain ⟨v0, v1, v2, v3, v4, v5⟩ := HV2.out
            simp only at v0 v1 v2 v3 v4 v5
            go_wp2_with fail
            go_ret
            exact ⟨_, rfl, ⟨A2, cap2, rfl, owns_low HP2.out (by have := HX.out.2.1; have := HX.out.2.2; omega)⟩, HK2.out⟩
      ·
        cases p5
        ·
          have HQ1 := Lib.hid (show (w1.alloc (.cells #[.int .i64 b] 3)).ownsRow B 3 1 (.slice A1 1 cap1) 1 (intsL [a]) from HP1.out.alloc _)
          have HS1 := Lib.hid (show B ≤ (w1.alloc (.cells #[.int .i64 b] 3)).heap.size by rw [nblk_alloc]; have := HB1.out; omega)
          have HA1 := Lib.hid ((Keeps.refl (fun _ => False) w1).alloc (.cells #[.int .i64 b] 3))
          have HC1 := Lib.hid (fun j u hj => cells_new w1 [.int .i64 b] 3 j u hj)
          go_wp2_with (at_builtin; go_loud (refine wpList_append_own _ rfl _ _ 49 rfl B 3 i0 _ 1 8 Tryd.underlying49 hi hz0 hz1 hz2 rfl (by decide) (.slice A1 1 cap1) 1 (intsL [a]) rfl HQ1.out ⟨w1.heap.size, 0, none⟩ 1 1 [.int .i64 b] rfl rfl HC1.out (ints_cell b) (by decide) (by decide) HS1.out ?c1))
          case c1 =>
            intro v' w2 hown hgrow hnil
            obtain ⟨A2, cap2, rfl⟩ := owns_slice hown
            have hlt := HQ1.out.lt
            have HW2 := Lib.hid (show Keeps (fun k => B ≤ k) w1 w2 from ((HA1.out.mono (fun _ _ h => h.elim)).grown hgrow (fun k hk _ => (hlt k hk).1)))
            have HK2 := Lib.hid (show Keeps (fun _ => False) w w2 from HK1.out.trans HW2.out (fun b hb h => by have h : B ≤ b := h; have := HX.out.2.1; have := HX.out.2.2; omega))
            have HV2 := Lib.hid (HV1.out.keep HW2.out (by have := HX.out.1; omega))
            have HP2 := Lib.hid (show w2.ownsRow B 3 1 (.slice A2 2 cap2) 2 (intsL [a, b]) from hown)
            have HB2 := Lib.hid (Nat.le_trans HB1.out HW2.out.size)
            clear hown hgrow hnil hlt v0 v1 v2 v3 v4 v5
            obtain ⟨v0, v1, v2, v3, v4, v5⟩ := HV2.out
            simp only at v0 v1 v2 v3 v4 v5
            go_wp2_with fail
            refine (HD.out _).mono ?_
            rintro e w' ⟨rfl, hw'⟩
            obtain rfl := hw'.symm
            cases pd
            ·
              go_wp2_with fail
              go_ret
              exact ⟨_, rfl, ⟨A2, cap2, rfl, owns_low HP2.out (by have := HX.out.2.1; have := HX.out.2.2; omega)⟩, HK2.out⟩
            ·
              have HQ2 := Lib.hid (show (w2.alloc (.cells #[.int .i64 d] 3)).ownsRow B 3 1 (.slice A2 2 cap2) 2 (intsL [a, b]) from HP2.out.alloc _)
              have HS2 := Lib.hid (show B ≤ (w2.alloc (.cells #[.int .i64 d] 3)).heap.size by rw [nblk_alloc]; have := HB2.out; omega)
              have HA2 := Lib.hid ((Keeps.refl (fun _ => False) w2).alloc (.cells #[.int .i64 d] 3))
              have HC2 := Lib.hid (fun j u hj => cells_new w2 [.int .i64 d] 3 j u hj)
              go_wp2_with (at_builtin; go_loud (refine wpList_append_own _ rfl _ _ 49 rfl B 3 i0 _ 1 8 Tryd.underlying49 hi hz0 hz1 hz2 rfl (by decide) (.slice A2 2 cap2) 2 (intsL [a, b]) rfl HQ2.out ⟨w2.heap.size, 0, none⟩ 1 1 [.int .i64 d] rfl rfl HC2.out (ints_cell d) (by decide) (by decide) HS2.out ?c2))
              case c2 =>
                intro v' w3 hown hgrow hnil
                obtain ⟨A3, cap3, rfl⟩ := owns_slice hown
                have hlt := HQ2.out.lt
                have HW3 := Lib.hid (show Keeps (fun k => B ≤ k) w2 w3 from ((HA2.out.mono (fun _ _ h => h.elim)).grown hgrow (fun k hk _ => (hlt k hk).1)))
                have HK3 := Lib.hid (show Keeps (fun _ => False) w w3 from HK2.out.trans HW3.out (fun b hb h => by have h : B ≤ b := h; have := HX.out.2.1; have := HX.out.2.2; omega))
                have HV3 := Lib.hid (HV2.out.keep HW3.out (by have := HX.out.1; omega))
                have HP3 := Lib.hid (show w3.ownsRow B 3 1 (.slice A3 3 cap3) 3 (intsL [a, b, d]) from hown)
                have HB3 := Lib.hid (Nat.le_trans HB2.out HW3.out.size)
                clear hown hgrow hnil hlt v0 v1 v2 v3 v4 v5
                obtain ⟨v0, v1, v2, v3, v4, v5⟩ := HV3.out
                simp only at v0 v1 v2 v3 v4 v5
                go_wp2_with fail
                go_ret
                exact ⟨_, rfl, ⟨A3, cap3, rfl, owns_low HP3.out (by have := HX.out.2.1; have := HX.out.2.2; omega)⟩, HK3.out⟩
        ·
          go_wp2_with fail
          refine (HD.out _).mono ?_
          rintro e w' ⟨rfl, hw'⟩
          obtain rfl := hw'.symm
          cases pd
          ·
            go_wp2_with fail
            go_ret
            exact ⟨_, rfl, ⟨A1, cap1, rfl, owns_low HP1.out (by have := HX.out.2.1; have := HX.out.2.2; omega)⟩, HK1.out⟩
          ·
            have HQ1 := Lib.hid (show (w1.alloc (.cells #[.int .i64 d] 3)).ownsRow B 3 1 (.slice A1 1 cap1) 1 (intsL [a]) from HP1.out.alloc _)
            have HS1 := Lib.hid (show B ≤ (w1.alloc (.cells #[.int .i64 d] 3)).heap.size by rw [nblk_alloc]; have := HB1.out; omega)
            have HA1 := Lib.hid ((Keeps.refl (fun _ => False) w1).alloc (.cells #[.int .i64 d] 3))
            have HC1 := Lib.hid (fun j u hj => cells_new w1 [.int .i64 d] 3 j u hj)
            go_wp2_with (at_builtin; go_loud (refine wpList_append_own _ rfl _ _ 49 rfl B 3 i0 _ 1 8 Tryd.underlying49 hi hz0 hz1 hz2 rfl (by decide) (.slice A1 1 cap1) 1 (intsL [a]) rfl HQ1.out ⟨w1.heap.size, 0, none⟩ 1 1 [.int .i64 d] rfl rfl HC1.out (ints_cell d) (by decide) (by decide) HS1.out ?c1))
            case c1 =>
              intro v' w2 hown hgrow hnil
              obtain ⟨A2, cap2, rfl⟩ := owns_slice hown
              have hlt := HQ1.out.lt
              have HW2 := Lib.hid (show Keeps (fun k => B ≤ k) w1 w2 from ((HA1.out.mono (fun _ _ h => h.elim)).grown hgrow (fun k hk _ => (hlt k hk).1)))
              have HK2 := Lib.hid (show Keeps (fun _ => False) w w2 from HK1.out.trans HW2.out (fun b hb h => by have h : B ≤ b := h; have := HX.out.2.1; have := HX.out.2.2; omega))
              have HV2 := Lib.hid (HV1.out.keep HW2.out (by have := HX.out.1; omega))
              have HP2 := Lib.hid (show w2.ownsRow B 3 1 (.slice A2 2 cap2) 2 (intsL [a, d]) from hown)
              have HB2 := Lib.hid (Nat.le_trans HB1.out HW2.out.size)
              clear hown hgrow hnil hlt v0 v1 v2 v3 v4 v5
              obtain ⟨v0, v1, v2, v3, v4, v5⟩ := HV2.out
              simp only at v0 v1 v2 v3 v4 v5
              go_wp2_with fail
              go_ret
              exact ⟨_, rfl, ⟨A2, cap2, rfl, owns_low HP2.out (by have := HX.out.2.1; have := HX.out.2.2; omega)⟩, HK2.out⟩
end Go.Proofs.YtaflchcoddgdbaaDoor
