
/- The walk of opt.fold. -/
import Derived.Test.YtaflchcoddgdbaaDoorFoldL
import Derived.Deep.RegionHeld3
namespace Go.Proofs.YtaflchcoddgdbaaDoor
open Go.RowKit Go.Deep
set_option linter.unusedVariables false
set_option linter.unusedSimpArgs false

/-- the loop's state between two rounds -/
structure FoldAt (w wr : World) (mb g n cap i : Nat) (l : List Ir.Op) : Prop where
  facts : FactsAt wr mb i (Ir.factsOf ((Ir.fold l).take i))
  row : wr.ownsRow w.heap.size 60 6 (.slice (some ⟨g, 0, none⟩) n cap) n (opsL (foldTo l i))
  k : Keeps (fun _ => False) w wr
  hm : w.heap.size ≤ mb
  hg : w.heap.size ≤ g
  ne : mb ≠ g
  lt : mb < wr.heap.size
theorem FoldAt.keep {w wr w' : World} {mb g n cap i : Nat} {l : List Ir.Op} (F : FoldAt w wr mb g n cap i l) (k : Keeps (fun _ => False) wr w') : FoldAt w w' mb g n cap i l :=
  ⟨F.facts.keep k (fun h => h), owns_keep F.row k (fun _ _ h => h), F.k.trans k (fun _ _ h => h), F.hm, F.hg, F.ne, Nat.lt_of_lt_of_le F.lt k.size⟩
theorem FoldAt.get {w wr : World} {mb g n cap i : Nat} {l : List Ir.Op} (F : FoldAt w wr mb g n cap i l) (hl : l.length = n) (hi : i < n) (a : Nat) (ha : a = i * 6) : OpLies wr g a (l.getD i Ir.nop) ∧ ∀ q, wr.frozen? ⟨g, q, none⟩ = false := by
  have h := owns_get F.row ((foldTo_len l i (by omega)).trans hl) i hi a ha
  rw [foldTo_at l i (by omega)] at h
  exact h
/-- behind the round's store, if there was one: the row one op further -/
structure FoldMid (w wr : World) (mb g n cap i : Nat) (l : List Ir.Op) : Prop where
  facts : FactsAt wr mb i (Ir.factsOf ((Ir.fold l).take i))
  row : wr.ownsRow w.heap.size 60 6 (.slice (some ⟨g, 0, none⟩) n cap) n (opsL (foldTo l (i + 1)))
  k : Keeps (fun _ => False) w wr
  hm : w.heap.size ≤ mb
  hg : w.heap.size ≤ g
  ne : mb ≠ g
  lt : mb < wr.heap.size
theorem FoldMid.get {w wr : World} {mb g n cap i : Nat} {l : List Ir.Op} (F : FoldMid w wr mb g n cap i l) (hl : l.length = n) (hi : i < n) (a : Nat) (ha : a = i * 6) : OpLies wr g a (Ir.foldOp (Ir.factsOf ((Ir.fold l).take i)) (l.getD i Ir.nop)) := by
  have h := (owns_get F.row ((foldTo_len l (i + 1) (by omega)).trans hl) i hi a ha).1
  rw [foldTo_step l i (by omega), List.getD_eq_getElem?_getD, List.getElem?_set_self (by rw [foldTo_len l i (by omega)]; omega)] at h
  exact h
theorem FoldAt.same {w wr : World} {mb g n cap i : Nat} {l : List Ir.Op} (F : FoldAt w wr mb g n cap i l) (hl : l.length = n) (hi : i < n) (h : Ir.foldOp (Ir.factsOf ((Ir.fold l).take i)) (l.getD i Ir.nop) = l.getD i Ir.nop) : FoldMid w wr mb g n cap i l := by
  refine ⟨F.facts, ?_, F.k, F.hm, F.hg, F.ne, F.lt⟩
  have e : foldTo l (i + 1) = foldTo l i := by
    rw [foldTo_step l i (by omega), h, ← foldTo_at l i (by omega)]
    have hlt : i < (foldTo l i).length := by rw [foldTo_len l i (by omega)]; omega
    rw [List.getD_eq_getElem?_getD, List.getElem?_eq_getElem hlt]
    exact List.set_getElem_self hlt
  rw [e]
  exact F.row
theorem FoldAt.store {w wr : World} {mb g n cap i : Nat} {l : List Ir.Op} (F : FoldAt w wr mb g n cap i l) (hl : l.length = n) (hi : i < n) (p : Nat) (hp : p = i * 6) {k : ByteArray} {d a b im t : Int} (h : Ir.foldOp (Ir.factsOf ((Ir.fold l).take i)) (l.getD i Ir.nop) = ⟨k, d, a, b, im, t⟩) :
    FoldMid w ((((((wr.setCell ⟨g, p, none⟩ (.string k)).setCell ⟨g, p + 1, none⟩ (.int .i64 d)).setCell ⟨g, p + 2, none⟩ (.int .i64 a)).setCell ⟨g, p + 3, none⟩ (.int .i64 b)).setCell ⟨g, p + 4, none⟩ (.int .u32 im)).setCell ⟨g, p + 5, none⟩ (.int .i64 t)) mb g n cap i l := by
  obtain ⟨h1, h2⟩ := owns_set F.row ((foldTo_len l i (by omega)).trans hl) i hi ⟨k, d, a, b, im, t⟩ p hp
  refine ⟨F.facts.keep h2 F.ne, ?_, F.k.trans h2 (fun b hb h => by have := F.hg; omega), F.hm, F.hg, F.ne, Nat.lt_of_lt_of_le F.lt h2.size⟩
  rw [foldTo_step l i (by omega), h]
  exact h1
theorem FoldMid.keep {w wr w' : World} {mb g n cap i : Nat} {l : List Ir.Op} (F : FoldMid w wr mb g n cap i l) (k : Keeps (fun _ => False) wr w') : FoldMid w w' mb g n cap i l :=
  ⟨F.facts.keep k (fun h => h), owns_keep F.row k (fun _ _ h => h), F.k.trans k (fun _ _ h => h), F.hm, F.hg, F.ne, Nat.lt_of_lt_of_le F.lt k.size⟩
theorem FoldMid.next {w wr w' : World} {mb g n cap i : Nat} {l : List Ir.Op} (F : FoldMid w wr mb g n cap i l) (hl : l.length = n) (hi : i < n) (h : FactsAt w' mb (i + 1) (Ir.learn (Ir.factsOf ((Ir.fold l).take i)) (Ir.foldOp (Ir.factsOf ((Ir.fold l).take i)) (l.getD i Ir.nop)))) (k : Keeps (· = mb) wr w') : FoldAt w w' mb g n cap (i + 1) l := by
  refine ⟨by rw [facts_foldTo l i (by omega)]; exact h, owns_keep F.row k (fun q hq h => ?_), F.k.trans k (fun b hb h => by have := F.hm; omega), F.hm, F.hg, F.ne, Nat.lt_of_lt_of_le F.lt k.size⟩
  injection hq with hq
  exact F.ne (h.symm.trans hq.symm)
theorem rem64 (b : Int) : IntKind.i64.wrap (b.tmod 64) = b.tmod 64 ∧ i64R (b.tmod 64) := by
  have h1 := Int.tmod_lt_of_pos b (b := 64) (by omega)
  have h2 := Int.tmod_lt_of_pos (-b) (b := 64) (by omega)
  rw [Int.neg_tmod] at h2
  refine ⟨?_, ?_⟩
  · rw [IntKind.wrap_i64]; omega
  · unfold i64R; omega


set_option maxHeartbeats 4000000 in
set_option maxRecDepth 100000 in
theorem fold_any (A : Option Addr) (n cap : Nat) (l : List Ir.Op) (w : World) (V : OpsAt w A n cap l) (hn : n < 1000000) (hok : OpsOk l) :
    Calls Tryd.prog 64 #[.slice A n cap] w fun e w' => ∃ v, e = .returned v ∧ OpsOwn w' w.heap.size (Ir.fold l) v ∧ Keeps (fun _ => False) w w' := by
  have HL := Lib.hid V.len
  have HV := Lib.hid V
  have HOK := Lib.hid hok
  clear V hok
  obtain ⟨B, hB⟩ : ∃ B, w.heap.size = B := ⟨_, rfl⟩
  rw [hB]
  have HB := Lib.hid hB.symm
  clear hB
  have HFM := Lib.hid (facts_made w)
  have HAL := Lib.hid ((Keeps.refl (fun _ => False) w).alloc (.map #[] 0))
  have hmm := @run_makeMap Tryd.prog
  go_enter Tryd.func64, Tryd.ntmps64
  go_upto_region 2 with fail
  clear hmm
  have hfm := HFM.out
  have hal := HAL.out
  obtain ⟨mb, hmb⟩ : ∃ b, w.heap.size = b := ⟨_, rfl⟩
  clear HFM HAL
  have HMB := Lib.hid hmb
  rw [hmb] at hfm ⊢
  clear hmb
  generalize w.alloc _ = wm at *
  have HFM := Lib.hid hfm
  have HAL := Lib.hid hal
  clear hfm hal
  have HCL := Lib.hid (clone_any A n cap l wm (HV.out.quiet HAL.out) hn)
  go_wp2_with fail
  refine HCL.out.mono ?_
  rintro e w2 ⟨v, rfl, ⟨A', cap', rfl, ho⟩, hk2⟩
  rw [HL.out] at ho ⊢
  have HK2 := Lib.hid (HAL.out.trans hk2 (fun _ _ h => h))
  have HM2 := Lib.hid (HFM.out.keep hk2 (fun h => h))
  have HO := Lib.hid ho
  clear hk2
  obtain ⟨hlen, ⟨h0, hn0⟩ | ⟨g, cap2, cur, h2, h3, h4, h5, h6, h7, h8⟩⟩ := ho
  · injection h0 with e1 e2 e3
    subst e1 e3
    subst hn0
    have HNIL := Lib.hid (show Ir.fold l = [] by rw [List.eq_nil_of_length_eq_zero HL.out]; rfl)
    clear hlen e2
    go_wp2_with fail
    go_loopw [16] (fun s16 wr => s16 = .int .i64 0 ∧ wr = w2) (fun _ _ => 0)
    case atStart => exact ⟨rfl, rfl⟩
    case round =>
      obtain ⟨rfl, rfl⟩ := hrel
      go_wp2_with fail
      go_ret
      rw [HNIL.out]
      exact ⟨_, rfl, ⟨none, 0, rfl, World.ownsRow_nil _ _ _ _⟩, HK2.out⟩
  · injection h2 with e1 e2 e3
    subst e1 e3
    have HFA := Lib.hid (show FoldAt w w2 mb g n cap' 0 l from by
      have hlt := HFM.out.lt
      have := HAL.out.size
      refine ⟨HM2.out, ⟨hlen, .inr ⟨g, cap', cur, rfl, by omega, h4, h5, h6, h7, h8⟩⟩, HK2.out, ?_, by omega, by omega, HM2.out.lt⟩
      rw [← HMB.out]
      omega)
    clear h3 h4 h5 h7 h8 hlen e2
    obtain ⟨o, ho0⟩ : ∃ o, o = 0 := ⟨0, rfl⟩
    rw [show (Value.slice (some ⟨g, 0, none⟩) n cap') = .slice (some ⟨g, o, none⟩) n cap' by rw [ho0]]
    have HO0 := Lib.hid ho0
    have HCAP := Lib.hid h6
    clear ho0 h6
    go_wp2_with fail
    go_loopw [16] (fun s16 wr => ∃ i : Nat, i ≤ n ∧ s16 = .int .i64 i ∧ FoldAt w wr mb g n cap' i l) (fun s16 _ => n - (intOf s16).toNat)
    case atStart => exact ⟨0, by omega, rfl, HFA.out⟩
    case round =>
      obtain ⟨i, hi, rfl, hF⟩ := hrel
      have HF := Lib.hid hF
      clear hF
      by_cases hlt : i < n
      · have HP := Lib.hid (show o + i * 6 = i * 6 by rw [HO0.out, Nat.zero_add])
        have HIL := Lib.hid (show i < l.length by rw [HL.out]; exact hlt)
        obtain ⟨hE, hfz⟩ := HF.out.get HL.out hlt (o + i * 6) HP.out
        obtain ⟨e0, e1, e2, e3, e4, e5⟩ := hE
        have HOP := Lib.hid (HOK.out.ok _ (getD_mem HIL.out))
        have HRG := Lib.hid (HOK.out.reg _ (getD_mem HIL.out))
        have HFU := Lib.hid (facts_u l HOK.out i (Nat.le_of_lt HIL.out))
        have HGET := Lib.hid (fun w' (F : FoldAt w w' mb g n cap' i l) => F.get HL.out hlt (o + i * 6) HP.out)
        have HSTO := Lib.hid (fun w' (F : FoldAt w w' mb g n cap' i l) k d a b im t => F.store HL.out hlt (o + i * 6) HP.out (k := k) (d := d) (a := a) (b := b) (im := im) (t := t))
        have HSAM := Lib.hid (fun w' (F : FoldAt w w' mb g n cap' i l) => F.same HL.out hlt)
        have HMGT := Lib.hid (fun w' (F : FoldMid w w' mb g n cap' i l) => F.get HL.out hlt (o + i * 6) HP.out)
        have HNXT := Lib.hid (fun w1 w' (F : FoldMid w w1 mb g n cap' i l) => F.next (w' := w') HL.out hlt)
        have HFAC := Lib.hid (fun w' (F : FoldAt w w' mb g n cap' i l) => F.facts)
        have HMFA := Lib.hid (fun w' (F : FoldMid w w' mb g n cap' i l) => F.facts)
        obtain ⟨ff, hff⟩ : ∃ ff, Ir.factsOf ((Ir.fold l).take i) = ff := ⟨_, rfl⟩
        rw [hff] at HFU HSTO HSAM HMGT HNXT HFAC HMFA
        clear hff
        obtain ⟨op, hop⟩ : ∃ op, l.getD i Ir.nop = op := ⟨_, rfl⟩
        rw [hop] at e0 e1 e2 e3 e4 e5 HOP HRG HGET HSTO HSAM HMGT HNXT
        clear hop
        have HOF := Lib.hid (foldOp_ok HFU.out HOP.out)
        have HE1 := Lib.hid (show Ir.foldable ff op = true → Ir.foldOp ff op = ⟨⟨#[115, 101, 116]⟩, op.d, 0, 0, Ir.value (Ir.kn op.k) ((Ir.fof ff op.a).getD 0) ((Ir.fof ff (op.b.tmod 64)).getD 0) 0, op.at_⟩ from fun h => by
          have hb : op.b.tmod 64 = op.b := by
            have h2 := h
            unfold Ir.foldable at h2
            simp only [Bool.and_eq_true] at h2
            have := HRG.out h2.1.1.1
            rw [Int.tmod_eq_emod_of_nonneg this.1]
            omega
          unfold Ir.foldOp
          rw [if_pos h, hb]
          rfl)
        have HE2 := Lib.hid (show Ir.foldable ff op = false → (Ir.kn op.k == 2) = true → (Ir.fof ff op.a).isSome = true → Ir.foldOp ff op = ⟨⟨#[115, 101, 116]⟩, op.d, 0, 0, (Ir.fof ff op.a).getD 0, op.at_⟩ from fun h h2 h3 => by
          unfold Ir.foldOp
          rw [if_neg (by rw [h]; decide), if_pos ⟨by simpa using h2, h3⟩]
          rfl)
        have HE3 := Lib.hid (show Ir.foldable ff op = false → ¬ ((Ir.kn op.k == 2) = true ∧ (Ir.fof ff op.a).isSome = true) → Ir.foldOp ff op = op from fun h h2 => by
          unfold Ir.foldOp
          rw [if_neg (by rw [h]; decide), if_neg (fun h3 => h2 ⟨by simpa using h3.1, h3.2⟩)])
        have HGA := Lib.hid (HFU.out.fof op.a)
        have HGB := Lib.hid (HFU.out.fof (op.b.tmod 64))
        have HVA := Lib.hid (fun w => value_any op.k ((Ir.fof ff op.a).getD 0) ((Ir.fof ff (op.b.tmod 64)).getD 0) 0 w HGA.out HGB.out)
        have HFA1 := Lib.hid (fun w F => of_any mb i ff op.a w F HOP.out.a)
        obtain ⟨hrm, hrr⟩ := rem64 op.b
        have HFB1 := Lib.hid (fun w F => of_any mb i ff (op.b.tmod 64) w F hrr)
        have HFO := Lib.hid (fun w F => foldable_any mb i ff op w F HOP.out)
        have HLN := Lib.hid (fun w F => learn_any mb i ff (Ir.foldOp ff op) w F (by omega) HOF.out)
        have h2 := is_copy op.k
        have HALR := Lib.hid ((Keeps.refl (fun _ => False) wr).alloc (.cells (opC op) 60))
        have HOAR := Lib.hid (OpAt.new wr op 60)
        have hzg : wr.heap.size ≠ g := fun e => by
          have := World.block_lt_of_cell? _ _ e0
          simp only at this
          omega
        clear hrr
        generalize Ir.value (Ir.kn op.k) ((Ir.fof ff op.a).getD 0) ((Ir.fof ff (op.b.tmod 64)).getD 0) 0 = vv at *
        generalize Ir.foldOp ff op = op2 at *
        generalize Ir.foldable ff op = fo at *
        generalize (Ir.kn op.k == 2) = p2 at *
        go_upto_region 6 with fail
        have hal := HALR.out
        have hoa := HOAR.out
        simp only [opC] at hal hoa
        clear HALR HOAR
        have HFX := Lib.hid (HF.out.keep hal)
        generalize wr.alloc _ = wx at *
        generalize wr.heap.size = z at *
        have HZX := Lib.hid hoa
        obtain ⟨x0, x1, x2, x3, x4, x5⟩ := hoa
        clear hal e0 e1 e2 e3 e4 e5 hfz
        go_wp2_with fail
        refine (HFA1.out wx (HFAC.out _ HFX.out)).mono ?_
        rintro e w3 ⟨rfl, rfl⟩
        go_wp2_with fail
        refine (HFB1.out _ (HFAC.out _ HFX.out)).mono ?_
        rintro e w3a ⟨rfl, rfl⟩
        generalize (Ir.fof ff op.a).isSome = ia at *
        generalize (Ir.fof ff op.a).getD 0 = ga at *
        generalize (Ir.fof ff (op.b.tmod 64)).isSome = ib at *
        generalize (Ir.fof ff (op.b.tmod 64)).getD 0 = gb at *
        go_wp2_with fail
        refine (HFO.out _ (HFAC.out _ HFX.out)).mono ?_
        rintro e w3 ⟨rfl, hk3⟩
        have HF3 := Lib.hid (HFX.out.keep hk3)
        have HZ3 := Lib.hid (HZX.out.keep hk3 (fun h => h))
        clear x0 x1 x2 x3 x4 x5 hk3
        obtain ⟨x0, x1, x2, x3, x4, x5⟩ := HZ3.out
        have hl0 : (0 : Int) ≤ (i : Int) := by omega
        have hl1 : (i : Int) < (n : Int) := by omega
        cases fo
        · cases p2
          · have HM := Lib.hid (HSAM.out w3 HF3.out (HE3.out rfl (fun h => Bool.noConfusion h.1)))
            obtain ⟨y0, y1, y2, y3, y4, y5⟩ := HMGT.out w3 HM.out
            go_wp2_with fail
            refine (HLN.out w3 (HMFA.out _ HM.out)).mono ?_
            rintro e w5 ⟨rfl, hF5, hk5⟩
            have HN := Lib.hid (HNXT.out w3 w5 HM.out hF5 hk5)
            clear y0 y1 y2 y3 y4 y5 hF5 hk5
            go_wp2_with fail
            go_roundw
            case rel => exact ⟨i + 1, by omega, by go_num, HN.out⟩
            case measure => simp [intOf]; omega
          · cases ia
            · have HM := Lib.hid (HSAM.out w3 HF3.out (HE3.out rfl (fun h => Bool.noConfusion h.2)))
              obtain ⟨y0, y1, y2, y3, y4, y5⟩ := HMGT.out w3 HM.out
              go_wp2_with fail
              refine (HLN.out w3 (HMFA.out _ HM.out)).mono ?_
              rintro e w5 ⟨rfl, hF5, hk5⟩
              have HN := Lib.hid (HNXT.out w3 w5 HM.out hF5 hk5)
              clear y0 y1 y2 y3 y4 y5 hF5 hk5
              go_wp2_with fail
              go_roundw
              case rel => exact ⟨i + 1, by omega, by go_num, HN.out⟩
              case measure => simp [intOf]; omega
            · have HM := Lib.hid (HSTO.out w3 HF3.out _ _ _ _ _ _ (HE2.out rfl rfl rfl))
              obtain ⟨⟨f0, f1, f2, f3, f4, f5⟩, hfz⟩ := HGET.out w3 HF3.out
              go_upto_region 12 with fail
              clear f0 f1 f2 f3 f4 f5 hfz x0 x1 x2 x3 x4 x5
              generalize ((((((w3.setCell ⟨g, o + i * 6, none⟩ (.string ⟨#[115, 101, 116]⟩)).setCell ⟨g, o + i * 6 + 1, none⟩ (.int .i64 op.d)).setCell ⟨g, o + i * 6 + 2, none⟩ (.int .i64 0)).setCell ⟨g, o + i * 6 + 3, none⟩ (.int .i64 0)).setCell ⟨g, o + i * 6 + 4, none⟩ (.int .u32 ga)).setCell ⟨g, o + i * 6 + 5, none⟩ (.int .i64 op.at_)) = WW at *
              obtain ⟨y0, y1, y2, y3, y4, y5⟩ := HMGT.out WW HM.out
              go_wp2_with fail
              refine (HLN.out WW (HMFA.out _ HM.out)).mono ?_
              rintro e w5 ⟨rfl, hF5, hk5⟩
              have HN := Lib.hid (HNXT.out WW w5 HM.out hF5 hk5)
              clear y0 y1 y2 y3 y4 y5 hF5 hk5
              go_wp2_with fail
              go_roundw
              case rel => exact ⟨i + 1, by omega, by go_num, HN.out⟩
              case measure => simp [intOf]; omega
        · go_upto_region 9 with fail
          go_region_held3 (fun w' => Keeps (· = g) w3 w' ∧ w'.cell? ⟨z, 0, none⟩ = some (.string op.k) ∧ w'.cell? ⟨z, 1, none⟩ = some (.int .i64 op.d) ∧ w'.cell? ⟨z, 5, none⟩ = some (.int .i64 op.at_))
            (first | (refine ⟨?_, ?_, ?_, ?_⟩ <;> first | ((repeat (first | (with_reducible assumption) | (with_reducible (exact Keeps.refl _ _)) | (with_reducible (apply Keeps.drew)) | (refine Keeps.setCell (S := fun x => x = g) (a := ⟨g, _, none⟩) ?_ (fun _ => rfl) _))); done) | (refine Keeps.cell' (S := (· = g)) (w := w3) ?_ (by assumption) hzg; (repeat (first | (with_reducible assumption) | (with_reducible (exact Keeps.refl _ _)) | (with_reducible (apply Keeps.drew)) | (refine Keeps.setCell (S := fun x => x = g) (a := ⟨g, _, none⟩) ?_ (fun _ => rfl) _))); done)) | (trace_state; fail))
            (first | (go_at_call 79; refine (HVA.out _).mono ?_; rintro e w4 ⟨rfl, hk4⟩; have HF4 := Lib.hid (HF3.out.keep (((Keeps.refl (fun _ => False) w3).drew).trans hk4 (fun _ _ h => h))); have hk5 : Keeps (· = g) w3 w4 := (((Keeps.refl (fun _ => False) w3).drew).trans hk4 (fun _ _ h => h)).mono (fun _ _ h => h.elim); obtain ⟨⟨f0, f1, f2, f3, f4, f5⟩, hfz⟩ := HGET.out w4 HF4.out))
          have HM := Lib.hid (HSTO.out w4 HF4.out _ _ _ _ _ _ (HE1.out (by first | rfl | trivial)))
          clear f0 f1 f2 f3 f4 f5 hfz x0 x1 x2 x3 x4 x5
          generalize ((((((w4.setCell ⟨g, o + i * 6, none⟩ (.string ⟨#[115, 101, 116]⟩)).setCell ⟨g, o + i * 6 + 1, none⟩ (.int .i64 op.d)).setCell ⟨g, o + i * 6 + 2, none⟩ (.int .i64 0)).setCell ⟨g, o + i * 6 + 3, none⟩ (.int .i64 0)).setCell ⟨g, o + i * 6 + 4, none⟩ (.int .u32 vv)).setCell ⟨g, o + i * 6 + 5, none⟩ (.int .i64 op.at_)) = WW at *
          obtain ⟨y0, y1, y2, y3, y4, y5⟩ := HMGT.out WW HM.out
          go_wp2_with fail
          refine (HLN.out WW (HMFA.out _ HM.out)).mono ?_
          rintro e w5 ⟨rfl, hF5, hk5⟩
          have HN := Lib.hid (HNXT.out WW w5 HM.out hF5 hk5)
          clear y0 y1 y2 y3 y4 y5 hF5 hk5
          go_wp2_with fail
          go_roundw
          case rel => exact ⟨i + 1, by omega, by go_num, HN.out⟩
          case measure => simp [intOf]; omega
      · obtain rfl : i = n := by omega
        go_wp2_with fail
        go_ret
        refine ⟨_, rfl, ⟨some ⟨g, o, none⟩, cap', ?_, ?_⟩, HF.out.k⟩
        · rw [Ir.fold_len, HL.out]
          rfl
        · have h := HF.out.row
          rw [Ir.fold_len, HL.out, HO0.out, HB.out, ← foldTo_all, HL.out]
          exact h
end Go.Proofs.YtaflchcoddgdbaaDoor
