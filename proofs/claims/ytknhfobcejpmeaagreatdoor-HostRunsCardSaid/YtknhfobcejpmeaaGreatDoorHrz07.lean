import Derived.Test.YtknhfobcejpmeaaGreatDoorHrz01
import Derived.Deep.RegionHeld3
import Derived.Deep.QuietTactic

/- IrCheck -/
/- The walk of ir.Check: what it answers is Ir.fault. -/
namespace Go.Proofs.YtknhfobcejpmeaaGreatDoor
open Go.RowKit Go.Deep
set_option linter.unusedVariables false
set_option linter.unusedSimpArgs false

/-- an error with its place, as it lies -/
def FaultIs (w : World) (ea : Nat → Addr) (f : Nat × Int) (v : Value) : Prop :=
  (f.1 = 0 ∧ v = .nilIface) ∨ (f.1 ≠ 0 ∧ f.2 = -1 ∧ v = errV ea f.1) ∨ (f.1 ≠ 0 ∧ f.2 ≠ -1 ∧ ∃ b, v = .iface 157 (.pointer (some ⟨b, 0, none⟩)) ∧ w.cell? ⟨b, 0, none⟩ = some (.int .i64 f.2) ∧ w.cell? ⟨b, 1, none⟩ = some (errV ea f.1))
theorem FaultIs.keep {w w' : World} {ea : Nat → Addr} {f : Nat × Int} {v : Value} (h : FaultIs w ea f v) (k : Keeps (fun _ => False) w w') : FaultIs w' ea f v := by
  rcases h with h | h | ⟨h1, h2, b, h3, h4, h5⟩
  · exact .inl h
  · exact .inr (.inl h)
  · exact .inr (.inr ⟨h1, h2, b, h3, k.cell' h4 (fun h => h), k.cell' h5 (fun h => h)⟩)
theorem FaultIs.bare {w : World} {ea : Nat → Addr} {f : Nat × Int} {c : Nat} (h : f = (c, -1)) (hc : c ≠ 0) : FaultIs w ea f (errV ea c) := by
  subst h
  exact .inr (.inl ⟨hc, rfl, rfl⟩)
theorem FaultIs.placed {ea : Nat → Addr} {f : Nat × Int} {c : Nat} {i : Int} (h : f = (c, i)) (hc : c ≠ 0) (hi : i ≠ -1) (w : World) : FaultIs (w.alloc (.cells #[.int .i64 i, .iface 275 (.pointer (some (ea c)))] 159)) ea f (.iface 157 (.pointer (some ⟨w.heap.size, 0, none⟩))) := by
  subst h
  refine .inr (.inr ⟨hc, hi, w.heap.size, rfl, ?_, ?_⟩) <;> (unfold World.cell?; rw [blk_alloc_new]; rfl)
/-- a code as it lies: three cells -/
structure CodeAt (w : World) (x : Nat) (pc many : Int) (A : Option Addr) (n cap : Nat) : Prop where
  v0 : w.cell? ⟨x, 0, none⟩ = some (.int .u32 pc)
  v1 : w.cell? ⟨x, 1, none⟩ = some (.int .i64 many)
  v2 : w.cell? ⟨x, 2, none⟩ = some (.slice A n cap)
theorem CodeAt.keep {S : Nat → Prop} {w w' : World} {x : Nat} {pc many : Int} {A : Option Addr} {n cap : Nat} (V : CodeAt w x pc many A n cap) (k : Keeps S w w') (h : ¬ S x) : CodeAt w' x pc many A n cap :=
  ⟨k.cell' V.v0 h, k.cell' V.v1 h, k.cell' V.v2 h⟩
theorem code_new (w : World) (pc many : Int) (A : Option Addr) (n cap : Nat) (T : TypeId) : CodeAt (w.alloc (.cells #[.int .u32 pc, .int .i64 many, .slice A n cap] T)) w.heap.size pc many A n cap ∧ Keeps (fun _ => False) w (w.alloc (.cells #[.int .u32 pc, .int .i64 many, .slice A n cap] T)) := by
  refine ⟨?_, (Keeps.refl _ _).alloc _⟩
  constructor <;> (unfold World.cell?; rw [blk_alloc_new]; rfl)
theorem opErr_le (o : Ir.Op) (many : Int) : Ir.opErr o many ≤ 4 := by unfold Ir.opErr; split <;> (try split) <;> (try split) <;> omega

set_option maxHeartbeats 4000000 in
set_option maxRecDepth 100000 in
theorem Check_any (pc many : Int) (A : Option Addr) (n cap : Nat) (l : List Ir.Op) (w : World) (ea : Nat → Addr) (E : ErrsC w ea) (V : OpsAt w A n cap l) (hc : cap ≤ 9223372036854775807) :
    Calls Tryz.prog 45 #[.agg #[.int .u32 pc, .int .i64 many, .slice A n cap]] w fun e w' => (∃ v, e = .returned v ∧ FaultIs w' ea (Ir.fault many l) v) ∧ Keeps (fun _ => False) w w' := by
  have HE := Lib.hid E
  have HV := Lib.hid V
  have hn := V.le
  have HL := Lib.hid V.len
  have HN := Lib.hid (code_new w pc many A n cap 42)
  have hlen := V.len
  clear E V
  by_cases h1 : many < 1
  · have HF := Lib.hid (show Ir.fault many l = (2, -1) from if_pos (.inl h1))
    have h1' : decide (many < 1) = true := decide_eq_true h1
    clear h1 hlen
    go_enter Tryz.func45, Tryz.ntmps45
    go_upto_region 1 with fail
    obtain ⟨hV, hK⟩ := HN.out
    generalize w.alloc _ = w1 at *
    generalize w.heap.size = x at *
    have HC1 := Lib.hid hV
    have HK1 := Lib.hid hK
    obtain ⟨c0, c1, c2⟩ := hV
    have gb := (HE.out.quiet hK).bound
    have gs := (HE.out.quiet hK).shape
    have gf := (HE.out.quiet hK).full
    clear hK HN
    go_wp2_with fail
    go_ret
    exact ⟨⟨_, rfl, FaultIs.bare HF.out (by decide)⟩, HK1.out⟩
  by_cases h2 : 24 < many
  · have HF := Lib.hid (show Ir.fault many l = (2, -1) from if_pos (.inr h2))
    have h1' : decide (many < 1) = false := decide_eq_false h1
    have h2' : decide (24 < many) = true := decide_eq_true h2
    clear h1 h2 hlen
    go_enter Tryz.func45, Tryz.ntmps45
    go_upto_region 1 with fail
    obtain ⟨hV, hK⟩ := HN.out
    generalize w.alloc _ = w1 at *
    generalize w.heap.size = x at *
    have HC1 := Lib.hid hV
    have HK1 := Lib.hid hK
    obtain ⟨c0, c1, c2⟩ := hV
    have gb := (HE.out.quiet hK).bound
    have gs := (HE.out.quiet hK).shape
    have gf := (HE.out.quiet hK).full
    clear hK HN
    go_wp2_with fail
    go_ret
    exact ⟨⟨_, rfl, FaultIs.bare HF.out (by decide)⟩, HK1.out⟩
  have h12 : ¬ (many < 1 ∨ 24 < many) := by omega
  have h1' : decide (many < 1) = false := decide_eq_false h1
  have h2' : decide (24 < many) = false := decide_eq_false h2
  clear h1 h2
  by_cases h3 : 200 < n
  · have HF := Lib.hid (show Ir.fault many l = (8, -1) from (if_neg h12).trans (if_pos (by omega)))
    have h3' : decide ((200 : Int) < (n : Int)) = true := decide_eq_true (by omega)
    clear h12 h3 hlen
    go_enter Tryz.func45, Tryz.ntmps45
    go_upto_region 1 with fail
    obtain ⟨hV, hK⟩ := HN.out
    generalize w.alloc _ = w1 at *
    generalize w.heap.size = x at *
    have HC1 := Lib.hid hV
    have HK1 := Lib.hid hK
    obtain ⟨c0, c1, c2⟩ := hV
    have gb := (HE.out.quiet hK).bound
    have gs := (HE.out.quiet hK).shape
    have gf := (HE.out.quiet hK).full
    clear hK HN
    go_wp2_with fail
    go_ret
    exact ⟨⟨_, rfl, FaultIs.bare HF.out (by decide)⟩, HK1.out⟩
  have h3' : decide ((200 : Int) < (n : Int)) = false := decide_eq_false (by omega)
  by_cases h4 : 8 < Ir.stores l
  · have HF := Lib.hid (show Ir.fault many l = (8, -1) from (if_neg h12).trans ((if_neg (by omega)).trans (if_pos h4)))
    have h4' : decide ((8 : Int) < (Ir.stores l : Int)) = true := decide_eq_true (by omega)
    clear h12 h3 h4 hlen
    go_enter Tryz.func45, Tryz.ntmps45
    go_upto_region 1 with fail
    obtain ⟨hV, hK⟩ := HN.out
    generalize w.alloc _ = w1 at *
    generalize w.heap.size = x at *
    have HC1 := Lib.hid hV
    have HK1 := Lib.hid hK
    obtain ⟨c0, c1, c2⟩ := hV
    have gb := (HE.out.quiet hK).bound
    have gs := (HE.out.quiet hK).shape
    have gf := (HE.out.quiet hK).full
    clear hK HN
    go_wp2_with fail
    refine (Stores_any A _ cap l w1 (HV.out.quiet HK1.out) hc).mono ?_
    rintro e w2 ⟨rfl, hk2⟩
    have HC2 := Lib.hid (HC1.out.keep hk2 (fun h => h))
    have HK2 := Lib.hid (HK1.out.trans hk2 (fun _ _ h => h))
    obtain ⟨d0, d1, d2⟩ := HC2.out
    have kb := hk2.cell' gb (fun h => h)
    have ks := hk2.cell' gs (fun h => h)
    have kf := hk2.cell' gf (fun h => h)
    clear c0 c1 c2 gb gs gf hk2 HC1 HK1
    go_wp2_with fail
    go_ret
    exact ⟨⟨_, rfl, FaultIs.bare HF.out (by decide)⟩, HK2.out⟩
  have h4' : decide ((8 : Int) < (Ir.stores l : Int)) = false := decide_eq_false (by omega)
  by_cases h5 : n = 0
  · have HF := Lib.hid (show Ir.fault many l = (3, -1) from (if_neg h12).trans ((if_neg (by omega)).trans ((if_neg h4).trans (if_pos (by omega)))))
    have h5' : ((n : Int) == 0) = true := by simp [h5]
    clear h12 h3 h4 h5 hlen
    go_enter Tryz.func45, Tryz.ntmps45
    go_upto_region 1 with fail
    obtain ⟨hV, hK⟩ := HN.out
    generalize w.alloc _ = w1 at *
    generalize w.heap.size = x at *
    have HC1 := Lib.hid hV
    have HK1 := Lib.hid hK
    obtain ⟨c0, c1, c2⟩ := hV
    have gb := (HE.out.quiet hK).bound
    have gs := (HE.out.quiet hK).shape
    have gf := (HE.out.quiet hK).full
    clear hK HN
    go_wp2_with fail
    refine (Stores_any A _ cap l w1 (HV.out.quiet HK1.out) hc).mono ?_
    rintro e w2 ⟨rfl, hk2⟩
    have HC2 := Lib.hid (HC1.out.keep hk2 (fun h => h))
    have HK2 := Lib.hid (HK1.out.trans hk2 (fun _ _ h => h))
    obtain ⟨d0, d1, d2⟩ := HC2.out
    have kb := hk2.cell' gb (fun h => h)
    have ks := hk2.cell' gs (fun h => h)
    have kf := hk2.cell' gf (fun h => h)
    clear c0 c1 c2 gb gs gf hk2 HC1 HK1
    go_wp2_with fail
    go_ret
    exact ⟨⟨_, rfl, FaultIs.bare HF.out (by decide)⟩, HK2.out⟩
  obtain ⟨m, hm⟩ : ∃ m, m + 1 = n := ⟨n - 1, by omega⟩
  have HM := Lib.hid hm
  have h5' : ((n : Int) == 0) = false := by simp [h5]
  have HLG := Lib.hid (show l.getD (l.length - 1) Ir.nop = l.getD m Ir.nop by rw [hlen, ← hm]; rfl)
  have hw1 : IntKind.i64.wrap ((n : Int) - 1) = (m : Int) := by rw [IntKind.wrap_i64]; omega
  by_cases h6 : Ir.isOut (Ir.kn (l.getD (l.length - 1) Ir.nop).k) = false
  · have HF := Lib.hid (show Ir.fault many l = (3, -1) from (if_neg h12).trans ((if_neg (by omega)).trans ((if_neg h4).trans ((if_neg (by omega)).trans (if_pos h6)))))
    have HOT := Lib.hid (fun w => out_any (l.getD m Ir.nop) w)
    rw [HLG.out] at h6
    rw [h6] at HOT
    have hmn : m < n := by omega
    clear h12 h3 h4 h5 h6 hlen HLG hm
    go_enter Tryz.func45, Tryz.ntmps45
    go_upto_region 1 with fail
    obtain ⟨hV, hK⟩ := HN.out
    generalize w.alloc _ = w1 at *
    generalize w.heap.size = x at *
    have HC1 := Lib.hid hV
    have HK1 := Lib.hid hK
    obtain ⟨c0, c1, c2⟩ := hV
    have gb := (HE.out.quiet hK).bound
    have gs := (HE.out.quiet hK).shape
    have gf := (HE.out.quiet hK).full
    clear hK HN
    go_wp2_with fail
    refine (Stores_any A _ cap l w1 (HV.out.quiet HK1.out) hc).mono ?_
    rintro e w2 ⟨rfl, hk2⟩
    have HC2 := Lib.hid (HC1.out.keep hk2 (fun h => h))
    have HK2 := Lib.hid (HK1.out.trans hk2 (fun _ _ h => h))
    obtain ⟨d0, d1, d2⟩ := HC2.out
    have kb := hk2.cell' gb (fun h => h)
    have ks := hk2.cell' gs (fun h => h)
    have kf := hk2.cell' gf (fun h => h)
    clear c0 c1 c2 gb gs gf hk2 HC1 HK1
    obtain ⟨bb, oo, rfl, e0, e1, e2, e3, e4, e5⟩ := (HV.out.quiet HK2.out).get (show m < n by have := HM.out; omega)
    go_wp2_with fail
    refine (HOT.out _).mono ?_
    rintro e w3 ⟨rfl, hk3⟩
    have HK3 := Lib.hid (HK2.out.trans hk3 (fun _ _ h => h))
    have js := hk3.cell' ks (fun h => h)
    clear kb ks kf d0 d1 d2 e0 e1 e2 e3 e4 e5 hk3
    go_wp2_with fail
    go_ret
    exact ⟨⟨_, rfl, FaultIs.bare HF.out (by decide)⟩, HK3.out⟩
  have HOT := Lib.hid (fun w => out_any (l.getD m Ir.nop) w)
  rw [HLG.out, Bool.not_eq_false] at h6
  rw [h6] at HOT
  have HF := Lib.hid (show Ir.fault many l = (match Ir.firstBad many l with | some i => (Ir.errAt many l i, (i : Int)) | none => (0, -1)) from (if_neg h12).trans ((if_neg (by omega)).trans ((if_neg h4).trans ((if_neg (by omega)).trans (if_neg (by rw [HLG.out, h6]; decide))))))
  have hm200 : n ≤ 200 := by omega
  have hmn : m < n := by omega
  clear h12 h3 h4 h5 h6 hlen HLG hm
  go_enter Tryz.func45, Tryz.ntmps45
  go_upto_region 1 with fail
  obtain ⟨hV, hK⟩ := HN.out
  generalize w.alloc _ = w1 at *
  generalize w.heap.size = x at *
  have HC1 := Lib.hid hV
  have HK1 := Lib.hid hK
  obtain ⟨c0, c1, c2⟩ := hV
  have gb := (HE.out.quiet hK).bound
  have gs := (HE.out.quiet hK).shape
  have gf := (HE.out.quiet hK).full
  clear hK HN
  go_wp2_with fail
  refine (Stores_any A _ cap l w1 (HV.out.quiet HK1.out) hc).mono ?_
  rintro e w2 ⟨rfl, hk2⟩
  have HC2 := Lib.hid (HC1.out.keep hk2 (fun h => h))
  have HK2 := Lib.hid (HK1.out.trans hk2 (fun _ _ h => h))
  obtain ⟨d0, d1, d2⟩ := HC2.out
  have kb := hk2.cell' gb (fun h => h)
  have ks := hk2.cell' gs (fun h => h)
  have kf := hk2.cell' gf (fun h => h)
  clear c0 c1 c2 gb gs gf hk2 HC1 HK1
  obtain ⟨bb, oo, rfl, e0, e1, e2, e3, e4, e5⟩ := (HV.out.quiet HK2.out).get (show m < n by have := HM.out; omega)
  go_wp2_with fail
  refine (HOT.out _).mono ?_
  rintro e w3 ⟨rfl, hk3⟩
  have HK3 := Lib.hid (HK2.out.trans hk3 (fun _ _ h => h))
  have HC3 := Lib.hid (HC2.out.keep hk3 (fun h => h))
  obtain ⟨a0, a1, a2⟩ := HC3.out
  have js := hk3.cell' ks (fun h => h)
  clear kb ks kf d0 d1 d2 e0 e1 e2 e3 e4 e5 hk3 HC2
  go_wp2_with fail
  clear a0 a1 a2 js
  go_loopw [47] (fun s47 wr => ∃ i : Nat, i ≤ n ∧ s47 = .int .i64 i ∧ Keeps (fun _ => False) w3 wr ∧ ∀ j, j < i → Ir.errAt many l j = 0) (fun s47 _ => n - (intOf s47).toNat)
  case atStart => exact ⟨0, by omega, rfl, Keeps.refl _ _, fun j hj => absurd hj (Nat.not_lt_zero _)⟩
  case round =>
    obtain ⟨i, hi, rfl, hK, hz⟩ := hrel
    have HZ := Lib.hid hz
    have HKR := Lib.hid (HK3.out.trans hK (fun _ _ h => h))
    have HKA := Lib.hid hK
    have HCR := Lib.hid (HC3.out.keep hK (fun h => h))
    clear hz hK
    by_cases hlt : i < n
    · obtain ⟨bb', oo', hbb, e0, e1, e2, e3, e4, e5⟩ := (HV.out.quiet HKR.out).get hlt
      obtain ⟨rfl, rfl⟩ : bb = bb' ∧ oo = oo' := by injection hbb with h; injection h with h1 h2; exact ⟨h1, h2⟩
      clear hbb
      have HEA := Lib.hid (show Ir.errAt many l i = if Ir.opErr (l.getD i Ir.nop) many ≠ 0 then Ir.opErr (l.getD i Ir.nop) many else if (0 < i ∧ (l.getD i Ir.nop).at_ < (l.getD (i - 1) Ir.nop).at_) ∨ (Ir.isOut (Ir.kn (l.getD i Ir.nop).k) = true ∧ i + 1 < n) then 3 else 0 by unfold Ir.errAt; rw [HL.out])
      have HNX := Lib.hid (fun (h : Ir.errAt many l i = 0) => (show ∀ j, j < i + 1 → Ir.errAt many l j = 0 from fun j hj => by
        by_cases hji : j = i
        · rw [hji]; exact h
        · exact HZ.out j (by omega)))
      have HBD := Lib.hid (fun (h : Ir.errAt many l i ≠ 0) => (show Ir.fault many l = (Ir.errAt many l i, (i : Int)) by rw [HF.out, Ir.firstBad_at (by rw [HL.out]; exact hlt) h HZ.out]))
      have HVP := Lib.hid (fun p (hp : p < n) => (HV.out.quiet HKR.out).get hp)
      obtain ⟨op, hop⟩ : ∃ op, l.getD i Ir.nop = op := ⟨_, rfl⟩
      rw [hop] at e0 e1 e2 e3 e4 e5 HEA
      have HOO := Lib.hid (fun w => out_any op w)
      have HCK := Lib.hid (fun w E => checkOp_any op many w ea E)
      have HAL := Lib.hid ((Keeps.refl (fun _ => False) wr).alloc (.cells (opC op) 100))
      have HOA := Lib.hid (OpAt.new wr op 100)
      clear hop
      have d1 := HCR.out.v1
      have d1a := cell_alloc d1 (.cells (opC op) 100)
      simp only [opC] at d1a
      obtain ⟨ec, hec⟩ : ∃ c, Ir.opErr op many = c := ⟨_, rfl⟩
      rw [hec] at HEA HCK
      clear hec
      obtain ⟨io, hio⟩ : ∃ b, Ir.isOut (Ir.kn op.k) = b := ⟨_, rfl⟩
      rw [hio] at HEA HOO
      clear hio
      go_wp2_with fail
      have hal := HAL.out
      have hoa := HOA.out
      simp only [opC] at hal hoa
      generalize wr.alloc _ = wx at *
      generalize wr.heap.size = y at *
      have HKX := Lib.hid (HKR.out.trans hal (fun _ _ h => h))
      have HALK := Lib.hid hal
      have HCX := Lib.hid (HCR.out.keep hal (fun h => h))
      have HOX := Lib.hid hoa
      clear hal hoa HAL HOA e0 e1 e2 e3 e4 e5 d1 d1a
      refine (HCK.out _ (HE.out.quiet HKX.out)).mono ?_
      rintro e w5 ⟨rfl, hk5⟩
      have HK5 := Lib.hid (HKX.out.trans hk5 (fun _ _ h => h))
      have HKL := Lib.hid ((HKA.out.trans HALK.out (fun _ _ h => h)).trans hk5 (fun _ _ h => h))
      have HC5 := Lib.hid (HCX.out.keep hk5 (fun h => h))
      have HO5 := Lib.hid (HOX.out.keep hk5 (fun h => h))
      have HR5 := Lib.hid (fun p (hp : p < n) => (HV.out.quiet HK5.out).get hp)
      clear hk5 HKX HCX HOX HVP HCK
      by_cases hec : ec = 0
      · subst hec
        rw [show errOf0 ea 0 = .nilIface from rfl]
        have hea := HEA.out
        rw [if_neg (by decide)] at hea
        obtain ⟨bd, hbd⟩ : ∃ b, decide ((0 < i ∧ op.at_ < (l.getD (i - 1) Ir.nop).at_) ∨ (io = true ∧ i + 1 < n)) = b := ⟨_, rfl⟩
        have HBD0 := Lib.hid hbd
        have HEA2 := Lib.hid (show Ir.errAt many l i = if bd = true then 3 else 0 by rw [hea, ← hbd]; simp only [decide_eq_true_eq])
        clear hea hbd HEA
        go_upto_region 12 with fail
        obtain ⟨x0, x1, x2, x3, x4, x5⟩ := HO5.out
        have cc2 := HC5.out.v2
        go_cut [47, 83] from 47 to 92 (fun s47 s83 wx => s47 = .int .i64 (i : Int) ∧ s83 = .bool bd ∧ Keeps (fun _ => False) w5 wx)
        case first =>
          by_cases h0 : 0 < i
          · obtain ⟨p, hp⟩ : ∃ p, p + 1 = i := ⟨i - 1, by omega⟩
            have hw2 : IntKind.i64.wrap ((i : Int) - 1) = (p : Int) := by rw [IntKind.wrap_i64]; omega
            have t0 : decide (0 < i) = true := decide_eq_true (by omega)
            obtain ⟨b3, o3, hb3, _, _, _, _, _, q5⟩ := HR5.out p (by omega)
            obtain ⟨rfl, rfl⟩ : bb = b3 ∧ oo = o3 := by injection hb3 with h; injection h with h1 h2; exact ⟨h1, h2⟩
            have HPR := Lib.hid (show (l.getD (i - 1) Ir.nop).at_ = (l.getD p Ir.nop).at_ by rw [← hp]; rfl)
            have hpm : p < n := by omega
            clear hb3 hp
            generalize (l.getD p Ir.nop).at_ = pr at *
            rw [HPR.out] at HBD0
            by_cases h1 : op.at_ < pr
            · have HB : Hid (bd = true) := Lib.hid (by rw [← HBD0.out]; exact decide_eq_true (.inl ⟨h0, h1⟩))
              have t1 : decide (op.at_ < pr) = true := decide_eq_true h1
              clear h0 h1
              refine wp_region_held_drew (S := fun w' => Keeps (fun _ => False) w5 w') (by kernel_rfl) (Keeps.refl _ w5).drew (fun hH0 => ?_)
              refine wpAnyH_take (i := 0) (v := ?_) rfl (by kernel_rfl) (by kernel_rfl) (by kernel_rfl) (fun _ _ _ h => h) (Or.inl ⟨by go_simp, ?_⟩) hH0 ?_
              rotate_left
              · intro w' hSw
                go_simp
                try with_reducible rfl
              simp only [Act.put, List.setIfInBounds_toArray, List.set_cons_zero, List.set_cons_succ]
              refine wpAnyH_take (i := 1) (v := ?_) rfl (by kernel_rfl) (by kernel_rfl) (by kernel_rfl) (fun _ _ _ h => h) (Or.inl ⟨by go_simp, ?_⟩) hH0 ?_
              rotate_left
              · intro w' hSw
                go_simp
                try with_reducible rfl
              simp only [Act.put, List.setIfInBounds_toArray, List.set_cons_zero, List.set_cons_succ]
              refine wpAnyH_take (i := 2) (v := ?_) rfl (by kernel_rfl) (by kernel_rfl) (by kernel_rfl) (fun _ _ _ h => h) (Or.inl ⟨by go_simp, ?_⟩) hH0 ?_
              rotate_left
              · intro w' hSw
                go_simp
                try with_reducible rfl
              simp only [Act.put, List.setIfInBounds_toArray, List.set_cons_zero, List.set_cons_succ]
              refine wpAnyH_take (i := 3) (v := ?_) rfl (by kernel_rfl) (by kernel_rfl) (by kernel_rfl) (fun _ _ _ h => h) (Or.inl ⟨by go_simp, ?_⟩) hH0 ?_
              rotate_left
              · intro w' hSw
                go_simp
                try with_reducible rfl
              simp only [Act.put, List.setIfInBounds_toArray, List.set_cons_zero, List.set_cons_succ]
              refine wpAnyH_take (i := 4) (v := ?_) rfl (by kernel_rfl) (by kernel_rfl) (by kernel_rfl) (fun _ _ _ h => h) (Or.inl ⟨by go_simp, ?_⟩) hH0 ?_
              rotate_left
              · intro w' hSw
                go_simp
                try with_reducible rfl
              simp only [Act.put, List.setIfInBounds_toArray, List.set_cons_zero, List.set_cons_succ]
              refine wpAnyH_take (i := 5) (v := ?_) rfl (by kernel_rfl) (by kernel_rfl) (by kernel_rfl) (fun _ _ _ h => h) (Or.inl ⟨by go_simp, ?_⟩) hH0 ?_
              rotate_left
              · intro w' hSw
                go_simp
                try with_reducible rfl
              simp only [Act.put, List.setIfInBounds_toArray, List.set_cons_zero, List.set_cons_succ]
              refine wpAnyH_take (i := 6) (v := ?_) rfl (by kernel_rfl) (by kernel_rfl) (by kernel_rfl) (fun _ _ _ h => h) (Or.inl ⟨by go_simp, ?_⟩) hH0 ?_
              rotate_left
              · intro w' hSw
                go_simp
                try with_reducible rfl
              simp only [Act.put, List.setIfInBounds_toArray, List.set_cons_zero, List.set_cons_succ]
              refine wpAnyH_take (i := 7) (v := ?_) rfl (by kernel_rfl) (by kernel_rfl) (by kernel_rfl) (fun _ _ _ h => h) (Or.inl ⟨by go_simp, ?_⟩) hH0 ?_
              rotate_left
              · intro w' hSw
                have g0 := Keeps.cell' hSw x5 (fun f => f)
                go_simp
                try with_reducible rfl
              simp only [Act.put, List.setIfInBounds_toArray, List.set_cons_zero, List.set_cons_succ]
              refine wpAnyH_take (i := 8) (v := ?_) rfl (by kernel_rfl) (by kernel_rfl) (by kernel_rfl) (fun _ _ _ h => h) (Or.inl ⟨by go_simp, ?_⟩) hH0 ?_
              rotate_left
              · intro w' hSw
                go_simp
                try with_reducible rfl
              simp only [Act.put, List.setIfInBounds_toArray, List.set_cons_zero, List.set_cons_succ]
              refine wpAnyH_take (i := 9) (v := ?_) rfl (by kernel_rfl) (by kernel_rfl) (by kernel_rfl) (fun _ _ _ h => h) (Or.inl ⟨by go_simp, ?_⟩) hH0 ?_
              rotate_left
              · intro w' hSw
                have g0 := Keeps.cell' hSw cc2 (fun f => f)
                go_simp
                try with_reducible rfl
              simp only [Act.put, List.setIfInBounds_toArray, List.set_cons_zero, List.set_cons_succ]
              refine wpAnyH_take (i := 10) (v := ?_) rfl (by kernel_rfl) (by kernel_rfl) (by kernel_rfl) (fun _ _ _ h => h) (Or.inl ⟨by go_simp, ?_⟩) hH0 ?_
              rotate_left
              · intro w' hSw
                go_simp
                try with_reducible rfl
              simp only [Act.put, List.setIfInBounds_toArray, List.set_cons_zero, List.set_cons_succ]
              refine wpAnyH_take (i := 11) (v := ?_) rfl (by kernel_rfl) (by kernel_rfl) (by kernel_rfl) (fun _ _ _ h => h) (Or.inl ⟨by go_simp, ?_⟩) hH0 ?_
              rotate_left
              · intro w' hSw
                go_simp
                try with_reducible rfl
              simp only [Act.put, List.setIfInBounds_toArray, List.set_cons_zero, List.set_cons_succ]
              refine wpAnyH_take (i := 12) (v := ?_) rfl (by kernel_rfl) (by kernel_rfl) (by kernel_rfl) (fun _ _ _ h => h) (Or.inl ⟨by go_simp, ?_⟩) hH0 ?_
              rotate_left
              · intro w' hSw
                go_simp
                try with_reducible rfl
              simp only [Act.put, List.setIfInBounds_toArray, List.set_cons_zero, List.set_cons_succ]
              refine wpAnyH_take (i := 13) (v := ?_) rfl (by kernel_rfl) (by kernel_rfl) (by kernel_rfl) (fun _ _ _ h => h) (Or.inl ⟨by go_simp, ?_⟩) hH0 ?_
              rotate_left
              · intro w' hSw
                go_simp
                try with_reducible rfl
              simp only [Act.put, List.setIfInBounds_toArray, List.set_cons_zero, List.set_cons_succ]
              refine wpAnyH_take (i := 14) (v := ?_) rfl (by kernel_rfl) (by kernel_rfl) (by kernel_rfl) (fun _ _ _ h => h) (Or.inl ⟨by go_simp, ?_⟩) hH0 ?_
              rotate_left
              · intro w' hSw
                have g0 := Keeps.cell' hSw q5 (fun f => f)
                go_simp
                try with_reducible rfl
              simp only [Act.put, List.setIfInBounds_toArray, List.set_cons_zero, List.set_cons_succ]
              refine wpAnyH_take (i := 15) (v := ?_) rfl (by kernel_rfl) (by kernel_rfl) (by kernel_rfl) (fun _ _ _ h => h) (Or.inl ⟨by go_simp, ?_⟩) hH0 ?_
              rotate_left
              · intro w' hSw
                go_simp
                try with_reducible rfl
              simp only [Act.put, List.setIfInBounds_toArray, List.set_cons_zero, List.set_cons_succ]
              refine wpAnyH_take (i := 16) (v := ?_) rfl (by kernel_rfl) (by kernel_rfl) (by kernel_rfl) (fun _ _ _ h => h) (Or.inl ⟨by go_simp, ?_⟩) hH0 ?_
              rotate_left
              · intro w' hSw
                go_simp
                try with_reducible rfl
              simp only [Act.put, List.setIfInBounds_toArray, List.set_cons_zero, List.set_cons_succ]
              refine wpAnyH_take (i := 17) (v := ?_) rfl (by kernel_rfl) (by kernel_rfl) (by kernel_rfl) (fun _ _ _ h => h) (Or.inl ⟨by go_simp, ?_⟩) hH0 ?_
              rotate_left
              · intro w' hSw
                go_simp
                try with_reducible rfl
              simp only [Act.put, List.setIfInBounds_toArray, List.set_cons_zero, List.set_cons_succ]
              refine wpAnyH_take (i := 18) (v := undef) rfl (by kernel_rfl) (by kernel_rfl) (by kernel_rfl) (fun _ _ _ h => h) (Or.inr ⟨by first | (go_simp; done) | (go_simp; intro h; cases h), rfl⟩) hH0 ?_
              simp only [Act.put, List.setIfInBounds_toArray, List.set_cons_zero, List.set_cons_succ]
              refine wpAnyH_take (i := 19) (v := undef) rfl (by kernel_rfl) (by kernel_rfl) (by kernel_rfl) (fun _ _ _ h => h) (Or.inr ⟨by first | (go_simp; done) | (go_simp; intro h; cases h), rfl⟩) hH0 ?_
              simp only [Act.put, List.setIfInBounds_toArray, List.set_cons_zero, List.set_cons_succ]
              refine wpAnyH_take (i := 20) (v := undef) rfl (by kernel_rfl) (by kernel_rfl) (by kernel_rfl) (fun _ _ _ h => h) (Or.inr ⟨by first | (go_simp; done) | (go_simp; intro h; cases h), rfl⟩) hH0 ?_
              simp only [Act.put, List.setIfInBounds_toArray, List.set_cons_zero, List.set_cons_succ]
              refine wpAnyH_take (i := 21) (v := undef) rfl (by kernel_rfl) (by kernel_rfl) (by kernel_rfl) (fun _ _ _ h => h) (Or.inr ⟨by first | (go_simp; done) | (go_simp; intro h; cases h), rfl⟩) hH0 ?_
              simp only [Act.put, List.setIfInBounds_toArray, List.set_cons_zero, List.set_cons_succ]
              refine wpAnyH_take (i := 22) (v := undef) rfl (by kernel_rfl) (by kernel_rfl) (by kernel_rfl) (fun _ _ _ h => h) (Or.inr ⟨by first | (go_simp; done) | (go_simp; intro h; cases h), rfl⟩) hH0 ?_
              simp only [Act.put, List.setIfInBounds_toArray, List.set_cons_zero, List.set_cons_succ]
              refine wpAnyH_take (i := 23) (v := undef) rfl (by kernel_rfl) (by kernel_rfl) (by kernel_rfl) (fun _ _ _ h => h) (Or.inr ⟨by first | (go_simp; done) | (go_simp; intro h; cases h), rfl⟩) hH0 ?_
              simp only [Act.put, List.setIfInBounds_toArray, List.set_cons_zero, List.set_cons_succ]
              refine wpAnyH_take (i := 24) (v := undef) rfl (by kernel_rfl) (by kernel_rfl) (by kernel_rfl) (fun _ _ _ h => h) (Or.inr ⟨by first | (go_simp; done) | (go_simp; intro h; cases h), rfl⟩) hH0 ?_
              simp only [Act.put, List.setIfInBounds_toArray, List.set_cons_zero, List.set_cons_succ]
              refine wpAnyH_take (i := 25) (v := undef) rfl (by kernel_rfl) (by kernel_rfl) (by kernel_rfl) (fun _ _ _ h => h) (Or.inr ⟨by first | (go_simp; done) | (go_simp; intro h; cases h), rfl⟩) hH0 ?_
              simp only [Act.put, List.setIfInBounds_toArray, List.set_cons_zero, List.set_cons_succ]
              refine wpAnyH_ready (rs := [26]) (by kernel_rfl) (by simp) ?_
              refine AllReadyH.cons rfl (fun K hK => ?_) AllReadyH.nil
              go_simp
              refine hK.out _ _ hH0 (fun _ => ?_)
              clear hK K
              try simp only [Act.put, List.setIfInBounds_toArray, List.set_cons_zero, List.set_cons_succ]
              refine wpAnyH_ready (rs := [27]) (by kernel_rfl) (by simp) ?_
              refine AllReadyH.cons rfl (fun K hK => ?_) AllReadyH.nil
              go_simp
              refine hK.out _ _ hH0 (fun _ => ?_)
              clear hK K
              try simp only [Act.put, List.setIfInBounds_toArray, List.set_cons_zero, List.set_cons_succ]
              refine wpAnyH_done (by kernel_rfl) ?_ _
              go_wp2_with fail
              go_meet
              exact ⟨rfl, by rw [HB.out], hH0⟩
            · have t1 : decide (op.at_ < pr) = false := decide_eq_false h1
              have HNP := Lib.hid (show ¬ (0 < i ∧ op.at_ < pr) from fun h => h1 h.2)
              clear h0 h1
              cases io
              · have HB : Hid (bd = false) := Lib.hid (by rw [← HBD0.out]; exact decide_eq_false (by rintro (h | h); exact absurd h HNP.out; exact absurd h.1 (by decide)))
                refine wp_region_held_drew (S := fun w' => Keeps (fun _ => False) w5 w') (by kernel_rfl) (Keeps.refl _ w5).drew (fun hH0 => ?_)
                refine wpAnyH_take (i := 0) (v := ?_) rfl (by kernel_rfl) (by kernel_rfl) (by kernel_rfl) (fun _ _ _ h => h) (Or.inl ⟨by go_simp, ?_⟩) hH0 ?_
                rotate_left
                · intro w' hSw
                  go_simp
                  try with_reducible rfl
                simp only [Act.put, List.setIfInBounds_toArray, List.set_cons_zero, List.set_cons_succ]
                refine wpAnyH_take (i := 1) (v := ?_) rfl (by kernel_rfl) (by kernel_rfl) (by kernel_rfl) (fun _ _ _ h => h) (Or.inl ⟨by go_simp, ?_⟩) hH0 ?_
                rotate_left
                · intro w' hSw
                  go_simp
                  try with_reducible rfl
                simp only [Act.put, List.setIfInBounds_toArray, List.set_cons_zero, List.set_cons_succ]
                refine wpAnyH_take (i := 2) (v := ?_) rfl (by kernel_rfl) (by kernel_rfl) (by kernel_rfl) (fun _ _ _ h => h) (Or.inl ⟨by go_simp, ?_⟩) hH0 ?_
                rotate_left
                · intro w' hSw
                  go_simp
                  try with_reducible rfl
                simp only [Act.put, List.setIfInBounds_toArray, List.set_cons_zero, List.set_cons_succ]
                refine wpAnyH_take (i := 3) (v := ?_) rfl (by kernel_rfl) (by kernel_rfl) (by kernel_rfl) (fun _ _ _ h => h) (Or.inl ⟨by go_simp, ?_⟩) hH0 ?_
                rotate_left
                · intro w' hSw
                  go_simp
                  try with_reducible rfl
                simp only [Act.put, List.setIfInBounds_toArray, List.set_cons_zero, List.set_cons_succ]
                refine wpAnyH_take (i := 4) (v := ?_) rfl (by kernel_rfl) (by kernel_rfl) (by kernel_rfl) (fun _ _ _ h => h) (Or.inl ⟨by go_simp, ?_⟩) hH0 ?_
                rotate_left
                · intro w' hSw
                  go_simp
                  try with_reducible rfl
                simp only [Act.put, List.setIfInBounds_toArray, List.set_cons_zero, List.set_cons_succ]
                refine wpAnyH_take (i := 5) (v := ?_) rfl (by kernel_rfl) (by kernel_rfl) (by kernel_rfl) (fun _ _ _ h => h) (Or.inl ⟨by go_simp, ?_⟩) hH0 ?_
                rotate_left
                · intro w' hSw
                  go_simp
                  try with_reducible rfl
                simp only [Act.put, List.setIfInBounds_toArray, List.set_cons_zero, List.set_cons_succ]
                refine wpAnyH_take (i := 6) (v := ?_) rfl (by kernel_rfl) (by kernel_rfl) (by kernel_rfl) (fun _ _ _ h => h) (Or.inl ⟨by go_simp, ?_⟩) hH0 ?_
                rotate_left
                · intro w' hSw
                  go_simp
                  try with_reducible rfl
                simp only [Act.put, List.setIfInBounds_toArray, List.set_cons_zero, List.set_cons_succ]
                refine wpAnyH_take (i := 7) (v := ?_) rfl (by kernel_rfl) (by kernel_rfl) (by kernel_rfl) (fun _ _ _ h => h) (Or.inl ⟨by go_simp, ?_⟩) hH0 ?_
                rotate_left
                · intro w' hSw
                  have g0 := Keeps.cell' hSw x5 (fun f => f)
                  go_simp
                  try with_reducible rfl
                simp only [Act.put, List.setIfInBounds_toArray, List.set_cons_zero, List.set_cons_succ]
                refine wpAnyH_take (i := 8) (v := ?_) rfl (by kernel_rfl) (by kernel_rfl) (by kernel_rfl) (fun _ _ _ h => h) (Or.inl ⟨by go_simp, ?_⟩) hH0 ?_
                rotate_left
                · intro w' hSw
                  go_simp
                  try with_reducible rfl
                simp only [Act.put, List.setIfInBounds_toArray, List.set_cons_zero, List.set_cons_succ]
                refine wpAnyH_take (i := 9) (v := ?_) rfl (by kernel_rfl) (by kernel_rfl) (by kernel_rfl) (fun _ _ _ h => h) (Or.inl ⟨by go_simp, ?_⟩) hH0 ?_
                rotate_left
                · intro w' hSw
                  have g0 := Keeps.cell' hSw cc2 (fun f => f)
                  go_simp
                  try with_reducible rfl
                simp only [Act.put, List.setIfInBounds_toArray, List.set_cons_zero, List.set_cons_succ]
                refine wpAnyH_take (i := 10) (v := ?_) rfl (by kernel_rfl) (by kernel_rfl) (by kernel_rfl) (fun _ _ _ h => h) (Or.inl ⟨by go_simp, ?_⟩) hH0 ?_
                rotate_left
                · intro w' hSw
                  go_simp
                  try with_reducible rfl
                simp only [Act.put, List.setIfInBounds_toArray, List.set_cons_zero, List.set_cons_succ]
                refine wpAnyH_take (i := 11) (v := ?_) rfl (by kernel_rfl) (by kernel_rfl) (by kernel_rfl) (fun _ _ _ h => h) (Or.inl ⟨by go_simp, ?_⟩) hH0 ?_
                rotate_left
                · intro w' hSw
                  go_simp
                  try with_reducible rfl
                simp only [Act.put, List.setIfInBounds_toArray, List.set_cons_zero, List.set_cons_succ]
                refine wpAnyH_take (i := 12) (v := ?_) rfl (by kernel_rfl) (by kernel_rfl) (by kernel_rfl) (fun _ _ _ h => h) (Or.inl ⟨by go_simp, ?_⟩) hH0 ?_
                rotate_left
                · intro w' hSw
                  go_simp
                  try with_reducible rfl
                simp only [Act.put, List.setIfInBounds_toArray, List.set_cons_zero, List.set_cons_succ]
                refine wpAnyH_take (i := 13) (v := ?_) rfl (by kernel_rfl) (by kernel_rfl) (by kernel_rfl) (fun _ _ _ h => h) (Or.inl ⟨by go_simp, ?_⟩) hH0 ?_
                rotate_left
                · intro w' hSw
                  go_simp
                  try with_reducible rfl
                simp only [Act.put, List.setIfInBounds_toArray, List.set_cons_zero, List.set_cons_succ]
                refine wpAnyH_take (i := 14) (v := ?_) rfl (by kernel_rfl) (by kernel_rfl) (by kernel_rfl) (fun _ _ _ h => h) (Or.inl ⟨by go_simp, ?_⟩) hH0 ?_
                rotate_left
                · intro w' hSw
                  have g0 := Keeps.cell' hSw q5 (fun f => f)
                  go_simp
                  try with_reducible rfl
                simp only [Act.put, List.setIfInBounds_toArray, List.set_cons_zero, List.set_cons_succ]
                refine wpAnyH_take (i := 15) (v := ?_) rfl (by kernel_rfl) (by kernel_rfl) (by kernel_rfl) (fun _ _ _ h => h) (Or.inl ⟨by go_simp, ?_⟩) hH0 ?_
                rotate_left
                · intro w' hSw
                  go_simp
                  try with_reducible rfl
                simp only [Act.put, List.setIfInBounds_toArray, List.set_cons_zero, List.set_cons_succ]
                refine wpAnyH_take (i := 16) (v := ?_) rfl (by kernel_rfl) (by kernel_rfl) (by kernel_rfl) (fun _ _ _ h => h) (Or.inl ⟨by go_simp, ?_⟩) hH0 ?_
                rotate_left
                · intro w' hSw
                  go_simp
                  try with_reducible rfl
                simp only [Act.put, List.setIfInBounds_toArray, List.set_cons_zero, List.set_cons_succ]
                refine wpAnyH_take (i := 17) (v := ?_) rfl (by kernel_rfl) (by kernel_rfl) (by kernel_rfl) (fun _ _ _ h => h) (Or.inl ⟨by go_simp, ?_⟩) hH0 ?_
                rotate_left
                · intro w' hSw
                  go_simp
                  try with_reducible rfl
                simp only [Act.put, List.setIfInBounds_toArray, List.set_cons_zero, List.set_cons_succ]
                refine wpAnyH_take (i := 18) (v := ?_) rfl (by kernel_rfl) (by kernel_rfl) (by kernel_rfl) (fun _ _ _ h => h) (Or.inl ⟨by go_simp, ?_⟩) hH0 ?_
                rotate_left
                · intro w' hSw
                  have g0 := Keeps.cell' hSw x0 (fun f => f)
                  have g1 := Keeps.cell' hSw x1 (fun f => f)
                  have g2 := Keeps.cell' hSw x2 (fun f => f)
                  have g3 := Keeps.cell' hSw x3 (fun f => f)
                  have g4 := Keeps.cell' hSw x4 (fun f => f)
                  have g5 := Keeps.cell' hSw x5 (fun f => f)
                  go_simp
                  try with_reducible rfl
                simp only [Act.put, List.setIfInBounds_toArray, List.set_cons_zero, List.set_cons_succ]
                refine wpAnyH_ready (rs := [19]) (by kernel_rfl) (by simp) ?_
                refine AllReadyH.cons rfl (fun K hK => ?_) AllReadyH.nil
                go_simp
                refine (HOO.out _).mono ?_
                rintro e w6 ⟨rfl, hk6⟩
                go_wp2_with fail
                have hH1 := Keeps.trans hH0 hk6 (fun _ _ h => h)
                refine hK.out _ _ hH1 (fun _ => ?_)
                clear hK K
                try simp only [Act.put, List.setIfInBounds_toArray, List.set_cons_zero, List.set_cons_succ]
                refine wpAnyH_take (i := 20) (v := ?_) rfl (by kernel_rfl) (by kernel_rfl) (by kernel_rfl) (fun _ _ _ h => h) (Or.inl ⟨by go_simp, ?_⟩) hH1 ?_
                rotate_left
                · intro w' hSw
                  go_simp
                  try with_reducible rfl
                simp only [Act.put, List.setIfInBounds_toArray, List.set_cons_zero, List.set_cons_succ]
                refine wpAnyH_take (i := 21) (v := undef) rfl (by kernel_rfl) (by kernel_rfl) (by kernel_rfl) (fun _ _ _ h => h) (Or.inr ⟨by first | (go_simp; done) | (go_simp; intro h; cases h), rfl⟩) hH1 ?_
                simp only [Act.put, List.setIfInBounds_toArray, List.set_cons_zero, List.set_cons_succ]
                refine wpAnyH_take (i := 22) (v := undef) rfl (by kernel_rfl) (by kernel_rfl) (by kernel_rfl) (fun _ _ _ h => h) (Or.inr ⟨by first | (go_simp; done) | (go_simp; intro h; cases h), rfl⟩) hH1 ?_
                simp only [Act.put, List.setIfInBounds_toArray, List.set_cons_zero, List.set_cons_succ]
                refine wpAnyH_take (i := 23) (v := undef) rfl (by kernel_rfl) (by kernel_rfl) (by kernel_rfl) (fun _ _ _ h => h) (Or.inr ⟨by first | (go_simp; done) | (go_simp; intro h; cases h), rfl⟩) hH1 ?_
                simp only [Act.put, List.setIfInBounds_toArray, List.set_cons_zero, List.set_cons_succ]
                refine wpAnyH_take (i := 24) (v := undef) rfl (by kernel_rfl) (by kernel_rfl) (by kernel_rfl) (fun _ _ _ h => h) (Or.inr ⟨by first | (go_simp; done) | (go_simp; intro h; cases h), rfl⟩) hH1 ?_
                simp only [Act.put, List.setIfInBounds_toArray, List.set_cons_zero, List.set_cons_succ]
                refine wpAnyH_take (i := 25) (v := ?_) rfl (by kernel_rfl) (by kernel_rfl) (by kernel_rfl) (fun _ _ _ h => h) (Or.inl ⟨by go_simp, ?_⟩) hH1 ?_
                rotate_left
                · intro w' hSw
                  go_simp
                  try with_reducible rfl
                simp only [Act.put, List.setIfInBounds_toArray, List.set_cons_zero, List.set_cons_succ]
                refine wpAnyH_ready (rs := [26]) (by kernel_rfl) (by simp) ?_
                refine AllReadyH.cons rfl (fun K hK => ?_) AllReadyH.nil
                go_simp
                refine hK.out _ _ hH1 (fun _ => ?_)
                clear hK K
                try simp only [Act.put, List.setIfInBounds_toArray, List.set_cons_zero, List.set_cons_succ]
                refine wpAnyH_ready (rs := [27]) (by kernel_rfl) (by simp) ?_
                refine AllReadyH.cons rfl (fun K hK => ?_) AllReadyH.nil
                go_simp
                refine hK.out _ _ hH1 (fun _ => ?_)
                clear hK K
                try simp only [Act.put, List.setIfInBounds_toArray, List.set_cons_zero, List.set_cons_succ]
                refine wpAnyH_done (by kernel_rfl) ?_ _
                go_wp2_with fail
                go_meet
                exact ⟨rfl, by rw [HB.out], hH1⟩
              · by_cases h2 : i + 1 < n
                · have HB : Hid (bd = true) := Lib.hid (by rw [← HBD0.out]; exact decide_eq_true (.inr ⟨rfl, h2⟩))
                  have t2 : decide (i < m) = true := decide_eq_true (by have := HM.out; omega)
                  clear h2
                  go_region_held3 (fun w' => Keeps (fun _ => False) w5 w' ∧ w'.cell? ⟨y, 0, none⟩ = some (.string op.k) ∧ w'.cell? ⟨y, 1, none⟩ = some (.int .i64 op.d) ∧ w'.cell? ⟨y, 2, none⟩ = some (.int .i64 op.a) ∧ w'.cell? ⟨y, 3, none⟩ = some (.int .i64 op.b) ∧ w'.cell? ⟨y, 4, none⟩ = some (.int .u32 op.imm) ∧ w'.cell? ⟨y, 5, none⟩ = some (.int .i64 op.at_) ∧ w'.cell? ⟨x, 2, none⟩ = some (.slice (some ⟨bb, oo, none⟩) n cap) ∧ w'.cell? ⟨bb, oo + p * 6 + 5, none⟩ = some (.int .i64 pr))
                    (first | (refine ⟨?_, ?_, ?_, ?_, ?_, ?_, ?_, ?_, ?_⟩ <;> first | ((repeat (first | exact Keeps.refl _ _ | assumption | apply Keeps.drew | apply Keeps.drewN | apply Keeps.alloc | (refine Keeps.trans ?_ (by assumption) (fun _ _ h => h)))); done) | (refine Keeps.cell' (S := fun _ => False) (w := w5) ?_ (by assumption) (fun f => f); (repeat (first | exact Keeps.refl _ _ | assumption | apply Keeps.drew | apply Keeps.drewN | apply Keeps.alloc | (refine Keeps.trans ?_ (by assumption) (fun _ _ h => h)))); done)) | (trace_state; fail))
                    (first | (go_at_call 81; refine (HOO.out _).mono ?_; rintro e w6 ⟨rfl, hk6⟩))
                  rename_i hh
                  have hkr := hh.1
                  clear hh
                  go_wp2_with fail
                  go_meet
                  exact ⟨rfl, by rw [HB.out], hkr⟩
                · have HB : Hid (bd = false) := Lib.hid (by rw [← HBD0.out]; exact decide_eq_false (by rintro (h | h); exact absurd h HNP.out; exact absurd h.2 h2))
                  have t2 : decide (i < m) = false := decide_eq_false (by have := HM.out; omega)
                  clear h2
                  go_region_held3 (fun w' => Keeps (fun _ => False) w5 w' ∧ w'.cell? ⟨y, 0, none⟩ = some (.string op.k) ∧ w'.cell? ⟨y, 1, none⟩ = some (.int .i64 op.d) ∧ w'.cell? ⟨y, 2, none⟩ = some (.int .i64 op.a) ∧ w'.cell? ⟨y, 3, none⟩ = some (.int .i64 op.b) ∧ w'.cell? ⟨y, 4, none⟩ = some (.int .u32 op.imm) ∧ w'.cell? ⟨y, 5, none⟩ = some (.int .i64 op.at_) ∧ w'.cell? ⟨x, 2, none⟩ = some (.slice (some ⟨bb, oo, none⟩) n cap) ∧ w'.cell? ⟨bb, oo + p * 6 + 5, none⟩ = some (.int .i64 pr))
                    (first | (refine ⟨?_, ?_, ?_, ?_, ?_, ?_, ?_, ?_, ?_⟩ <;> first | ((repeat (first | exact Keeps.refl _ _ | assumption | apply Keeps.drew | apply Keeps.drewN | apply Keeps.alloc | (refine Keeps.trans ?_ (by assumption) (fun _ _ h => h)))); done) | (refine Keeps.cell' (S := fun _ => False) (w := w5) ?_ (by assumption) (fun f => f); (repeat (first | exact Keeps.refl _ _ | assumption | apply Keeps.drew | apply Keeps.drewN | apply Keeps.alloc | (refine Keeps.trans ?_ (by assumption) (fun _ _ h => h)))); done)) | (trace_state; fail))
                    (first | (go_at_call 81; refine (HOO.out _).mono ?_; rintro e w6 ⟨rfl, hk6⟩))
                  rename_i hh
                  have hkr := hh.1
                  clear hh
                  go_wp2_with fail
                  go_meet
                  exact ⟨rfl, by rw [HB.out], hkr⟩
          · have t0 : decide (0 < i) = false := decide_eq_false (by omega)
            have HNP := Lib.hid (show ¬ (0 < i ∧ op.at_ < (l.getD (i - 1) Ir.nop).at_) from fun h => h0 h.1)
            clear h0
            cases io
            · have HB : Hid (bd = false) := Lib.hid (by rw [← HBD0.out]; exact decide_eq_false (by rintro (h | h); exact absurd h HNP.out; exact absurd h.1 (by decide)))
              refine wp_region_held_drew (S := fun w' => Keeps (fun _ => False) w5 w') (by kernel_rfl) (Keeps.refl _ w5).drew (fun hH0 => ?_)
              refine wpAnyH_take (i := 0) (v := ?_) rfl (by kernel_rfl) (by kernel_rfl) (by kernel_rfl) (fun _ _ _ h => h) (Or.inl ⟨by go_simp, ?_⟩) hH0 ?_
              rotate_left
              · intro w' hSw
                go_simp
                try with_reducible rfl
              simp only [Act.put, List.setIfInBounds_toArray, List.set_cons_zero, List.set_cons_succ]
              refine wpAnyH_take (i := 1) (v := ?_) rfl (by kernel_rfl) (by kernel_rfl) (by kernel_rfl) (fun _ _ _ h => h) (Or.inl ⟨by go_simp, ?_⟩) hH0 ?_
              rotate_left
              · intro w' hSw
                go_simp
                try with_reducible rfl
              simp only [Act.put, List.setIfInBounds_toArray, List.set_cons_zero, List.set_cons_succ]
              refine wpAnyH_take (i := 2) (v := ?_) rfl (by kernel_rfl) (by kernel_rfl) (by kernel_rfl) (fun _ _ _ h => h) (Or.inl ⟨by go_simp, ?_⟩) hH0 ?_
              rotate_left
              · intro w' hSw
                go_simp
                try with_reducible rfl
              simp only [Act.put, List.setIfInBounds_toArray, List.set_cons_zero, List.set_cons_succ]
              refine wpAnyH_take (i := 3) (v := ?_) rfl (by kernel_rfl) (by kernel_rfl) (by kernel_rfl) (fun _ _ _ h => h) (Or.inl ⟨by go_simp, ?_⟩) hH0 ?_
              rotate_left
              · intro w' hSw
                go_simp
                try with_reducible rfl
              simp only [Act.put, List.setIfInBounds_toArray, List.set_cons_zero, List.set_cons_succ]
              refine wpAnyH_take (i := 4) (v := ?_) rfl (by kernel_rfl) (by kernel_rfl) (by kernel_rfl) (fun _ _ _ h => h) (Or.inl ⟨by go_simp, ?_⟩) hH0 ?_
              rotate_left
              · intro w' hSw
                go_simp
                try with_reducible rfl
              simp only [Act.put, List.setIfInBounds_toArray, List.set_cons_zero, List.set_cons_succ]
              refine wpAnyH_take (i := 5) (v := ?_) rfl (by kernel_rfl) (by kernel_rfl) (by kernel_rfl) (fun _ _ _ h => h) (Or.inl ⟨by go_simp, ?_⟩) hH0 ?_
              rotate_left
              · intro w' hSw
                go_simp
                try with_reducible rfl
              simp only [Act.put, List.setIfInBounds_toArray, List.set_cons_zero, List.set_cons_succ]
              refine wpAnyH_take (i := 6) (v := undef) rfl (by kernel_rfl) (by kernel_rfl) (by kernel_rfl) (fun _ _ _ h => h) (Or.inr ⟨by first | (go_simp; done) | (go_simp; intro h; cases h), rfl⟩) hH0 ?_
              simp only [Act.put, List.setIfInBounds_toArray, List.set_cons_zero, List.set_cons_succ]
              refine wpAnyH_take (i := 7) (v := undef) rfl (by kernel_rfl) (by kernel_rfl) (by kernel_rfl) (fun _ _ _ h => h) (Or.inr ⟨by first | (go_simp; done) | (go_simp; intro h; cases h), rfl⟩) hH0 ?_
              simp only [Act.put, List.setIfInBounds_toArray, List.set_cons_zero, List.set_cons_succ]
              refine wpAnyH_take (i := 8) (v := undef) rfl (by kernel_rfl) (by kernel_rfl) (by kernel_rfl) (fun _ _ _ h => h) (Or.inr ⟨by first | (go_simp; done) | (go_simp; intro h; cases h), rfl⟩) hH0 ?_
              simp only [Act.put, List.setIfInBounds_toArray, List.set_cons_zero, List.set_cons_succ]
              refine wpAnyH_take (i := 9) (v := undef) rfl (by kernel_rfl) (by kernel_rfl) (by kernel_rfl) (fun _ _ _ h => h) (Or.inr ⟨by first | (go_simp; done) | (go_simp; intro h; cases h), rfl⟩) hH0 ?_
              simp only [Act.put, List.setIfInBounds_toArray, List.set_cons_zero, List.set_cons_succ]
              refine wpAnyH_take (i := 10) (v := undef) rfl (by kernel_rfl) (by kernel_rfl) (by kernel_rfl) (fun _ _ _ h => h) (Or.inr ⟨by first | (go_simp; done) | (go_simp; intro h; cases h), rfl⟩) hH0 ?_
              simp only [Act.put, List.setIfInBounds_toArray, List.set_cons_zero, List.set_cons_succ]
              refine wpAnyH_take (i := 11) (v := undef) rfl (by kernel_rfl) (by kernel_rfl) (by kernel_rfl) (fun _ _ _ h => h) (Or.inr ⟨by first | (go_simp; done) | (go_simp; intro h; cases h), rfl⟩) hH0 ?_
              simp only [Act.put, List.setIfInBounds_toArray, List.set_cons_zero, List.set_cons_succ]
              refine wpAnyH_take (i := 12) (v := undef) rfl (by kernel_rfl) (by kernel_rfl) (by kernel_rfl) (fun _ _ _ h => h) (Or.inr ⟨by first | (go_simp; done) | (go_simp; intro h; cases h), rfl⟩) hH0 ?_
              simp only [Act.put, List.setIfInBounds_toArray, List.set_cons_zero, List.set_cons_succ]
              refine wpAnyH_take (i := 13) (v := undef) rfl (by kernel_rfl) (by kernel_rfl) (by kernel_rfl) (fun _ _ _ h => h) (Or.inr ⟨by first | (go_simp; done) | (go_simp; intro h; cases h), rfl⟩) hH0 ?_
              simp only [Act.put, List.setIfInBounds_toArray, List.set_cons_zero, List.set_cons_succ]
              refine wpAnyH_take (i := 14) (v := undef) rfl (by kernel_rfl) (by kernel_rfl) (by kernel_rfl) (fun _ _ _ h => h) (Or.inr ⟨by first | (go_simp; done) | (go_simp; intro h; cases h), rfl⟩) hH0 ?_
              simp only [Act.put, List.setIfInBounds_toArray, List.set_cons_zero, List.set_cons_succ]
              refine wpAnyH_take (i := 15) (v := undef) rfl (by kernel_rfl) (by kernel_rfl) (by kernel_rfl) (fun _ _ _ h => h) (Or.inr ⟨by first | (go_simp; done) | (go_simp; intro h; cases h), rfl⟩) hH0 ?_
              simp only [Act.put, List.setIfInBounds_toArray, List.set_cons_zero, List.set_cons_succ]
              refine wpAnyH_take (i := 16) (v := ?_) rfl (by kernel_rfl) (by kernel_rfl) (by kernel_rfl) (fun _ _ _ h => h) (Or.inl ⟨by go_simp, ?_⟩) hH0 ?_
              rotate_left
              · intro w' hSw
                go_simp
                try with_reducible rfl
              simp only [Act.put, List.setIfInBounds_toArray, List.set_cons_zero, List.set_cons_succ]
              refine wpAnyH_take (i := 17) (v := ?_) rfl (by kernel_rfl) (by kernel_rfl) (by kernel_rfl) (fun _ _ _ h => h) (Or.inl ⟨by go_simp, ?_⟩) hH0 ?_
              rotate_left
              · intro w' hSw
                go_simp
                try with_reducible rfl
              simp only [Act.put, List.setIfInBounds_toArray, List.set_cons_zero, List.set_cons_succ]
              refine wpAnyH_take (i := 18) (v := ?_) rfl (by kernel_rfl) (by kernel_rfl) (by kernel_rfl) (fun _ _ _ h => h) (Or.inl ⟨by go_simp, ?_⟩) hH0 ?_
              rotate_left
              · intro w' hSw
                have g0 := Keeps.cell' hSw x0 (fun f => f)
                have g1 := Keeps.cell' hSw x1 (fun f => f)
                have g2 := Keeps.cell' hSw x2 (fun f => f)
                have g3 := Keeps.cell' hSw x3 (fun f => f)
                have g4 := Keeps.cell' hSw x4 (fun f => f)
                have g5 := Keeps.cell' hSw x5 (fun f => f)
                go_simp
                try with_reducible rfl
              simp only [Act.put, List.setIfInBounds_toArray, List.set_cons_zero, List.set_cons_succ]
              refine wpAnyH_ready (rs := [19]) (by kernel_rfl) (by simp) ?_
              refine AllReadyH.cons rfl (fun K hK => ?_) AllReadyH.nil
              go_simp
              refine (HOO.out _).mono ?_
              rintro e w6 ⟨rfl, hk6⟩
              go_wp2_with fail
              have hH1 := Keeps.trans hH0 hk6 (fun _ _ h => h)
              refine hK.out _ _ hH1 (fun _ => ?_)
              clear hK K
              try simp only [Act.put, List.setIfInBounds_toArray, List.set_cons_zero, List.set_cons_succ]
              refine wpAnyH_take (i := 20) (v := ?_) rfl (by kernel_rfl) (by kernel_rfl) (by kernel_rfl) (fun _ _ _ h => h) (Or.inl ⟨by go_simp, ?_⟩) hH1 ?_
              rotate_left
              · intro w' hSw
                go_simp
                try with_reducible rfl
              simp only [Act.put, List.setIfInBounds_toArray, List.set_cons_zero, List.set_cons_succ]
              refine wpAnyH_take (i := 21) (v := undef) rfl (by kernel_rfl) (by kernel_rfl) (by kernel_rfl) (fun _ _ _ h => h) (Or.inr ⟨by first | (go_simp; done) | (go_simp; intro h; cases h), rfl⟩) hH1 ?_
              simp only [Act.put, List.setIfInBounds_toArray, List.set_cons_zero, List.set_cons_succ]
              refine wpAnyH_take (i := 22) (v := undef) rfl (by kernel_rfl) (by kernel_rfl) (by kernel_rfl) (fun _ _ _ h => h) (Or.inr ⟨by first | (go_simp; done) | (go_simp; intro h; cases h), rfl⟩) hH1 ?_
              simp only [Act.put, List.setIfInBounds_toArray, List.set_cons_zero, List.set_cons_succ]
              refine wpAnyH_take (i := 23) (v := undef) rfl (by kernel_rfl) (by kernel_rfl) (by kernel_rfl) (fun _ _ _ h => h) (Or.inr ⟨by first | (go_simp; done) | (go_simp; intro h; cases h), rfl⟩) hH1 ?_
              simp only [Act.put, List.setIfInBounds_toArray, List.set_cons_zero, List.set_cons_succ]
              refine wpAnyH_take (i := 24) (v := undef) rfl (by kernel_rfl) (by kernel_rfl) (by kernel_rfl) (fun _ _ _ h => h) (Or.inr ⟨by first | (go_simp; done) | (go_simp; intro h; cases h), rfl⟩) hH1 ?_
              simp only [Act.put, List.setIfInBounds_toArray, List.set_cons_zero, List.set_cons_succ]
              refine wpAnyH_take (i := 25) (v := ?_) rfl (by kernel_rfl) (by kernel_rfl) (by kernel_rfl) (fun _ _ _ h => h) (Or.inl ⟨by go_simp, ?_⟩) hH1 ?_
              rotate_left
              · intro w' hSw
                go_simp
                try with_reducible rfl
              simp only [Act.put, List.setIfInBounds_toArray, List.set_cons_zero, List.set_cons_succ]
              refine wpAnyH_ready (rs := [26]) (by kernel_rfl) (by simp) ?_
              refine AllReadyH.cons rfl (fun K hK => ?_) AllReadyH.nil
              go_simp
              refine hK.out _ _ hH1 (fun _ => ?_)
              clear hK K
              try simp only [Act.put, List.setIfInBounds_toArray, List.set_cons_zero, List.set_cons_succ]
              refine wpAnyH_ready (rs := [27]) (by kernel_rfl) (by simp) ?_
              refine AllReadyH.cons rfl (fun K hK => ?_) AllReadyH.nil
              go_simp
              refine hK.out _ _ hH1 (fun _ => ?_)
              clear hK K
              try simp only [Act.put, List.setIfInBounds_toArray, List.set_cons_zero, List.set_cons_succ]
              refine wpAnyH_done (by kernel_rfl) ?_ _
              go_wp2_with fail
              go_meet
              exact ⟨rfl, by rw [HB.out], hH1⟩
            · by_cases h2 : i + 1 < n
              · have HB : Hid (bd = true) := Lib.hid (by rw [← HBD0.out]; exact decide_eq_true (.inr ⟨rfl, h2⟩))
                have t2 : decide (i < m) = true := decide_eq_true (by have := HM.out; omega)
                clear h2
                refine wp_region_held_drew (S := fun w' => Keeps (fun _ => False) w5 w') (by kernel_rfl) (Keeps.refl _ w5).drew (fun hH0 => ?_)
                refine wpAnyH_take (i := 0) (v := ?_) rfl (by kernel_rfl) (by kernel_rfl) (by kernel_rfl) (fun _ _ _ h => h) (Or.inl ⟨by go_simp, ?_⟩) hH0 ?_
                rotate_left
                · intro w' hSw
                  go_simp
                  try with_reducible rfl
                simp only [Act.put, List.setIfInBounds_toArray, List.set_cons_zero, List.set_cons_succ]
                refine wpAnyH_take (i := 1) (v := ?_) rfl (by kernel_rfl) (by kernel_rfl) (by kernel_rfl) (fun _ _ _ h => h) (Or.inl ⟨by go_simp, ?_⟩) hH0 ?_
                rotate_left
                · intro w' hSw
                  go_simp
                  try with_reducible rfl
                simp only [Act.put, List.setIfInBounds_toArray, List.set_cons_zero, List.set_cons_succ]
                refine wpAnyH_take (i := 2) (v := ?_) rfl (by kernel_rfl) (by kernel_rfl) (by kernel_rfl) (fun _ _ _ h => h) (Or.inl ⟨by go_simp, ?_⟩) hH0 ?_
                rotate_left
                · intro w' hSw
                  go_simp
                  try with_reducible rfl
                simp only [Act.put, List.setIfInBounds_toArray, List.set_cons_zero, List.set_cons_succ]
                refine wpAnyH_take (i := 3) (v := ?_) rfl (by kernel_rfl) (by kernel_rfl) (by kernel_rfl) (fun _ _ _ h => h) (Or.inl ⟨by go_simp, ?_⟩) hH0 ?_
                rotate_left
                · intro w' hSw
                  go_simp
                  try with_reducible rfl
                simp only [Act.put, List.setIfInBounds_toArray, List.set_cons_zero, List.set_cons_succ]
                refine wpAnyH_take (i := 4) (v := ?_) rfl (by kernel_rfl) (by kernel_rfl) (by kernel_rfl) (fun _ _ _ h => h) (Or.inl ⟨by go_simp, ?_⟩) hH0 ?_
                rotate_left
                · intro w' hSw
                  go_simp
                  try with_reducible rfl
                simp only [Act.put, List.setIfInBounds_toArray, List.set_cons_zero, List.set_cons_succ]
                refine wpAnyH_take (i := 5) (v := ?_) rfl (by kernel_rfl) (by kernel_rfl) (by kernel_rfl) (fun _ _ _ h => h) (Or.inl ⟨by go_simp, ?_⟩) hH0 ?_
                rotate_left
                · intro w' hSw
                  go_simp
                  try with_reducible rfl
                simp only [Act.put, List.setIfInBounds_toArray, List.set_cons_zero, List.set_cons_succ]
                refine wpAnyH_take (i := 6) (v := undef) rfl (by kernel_rfl) (by kernel_rfl) (by kernel_rfl) (fun _ _ _ h => h) (Or.inr ⟨by first | (go_simp; done) | (go_simp; intro h; cases h), rfl⟩) hH0 ?_
                simp only [Act.put, List.setIfInBounds_toArray, List.set_cons_zero, List.set_cons_succ]
                refine wpAnyH_take (i := 7) (v := undef) rfl (by kernel_rfl) (by kernel_rfl) (by kernel_rfl) (fun _ _ _ h => h) (Or.inr ⟨by first | (go_simp; done) | (go_simp; intro h; cases h), rfl⟩) hH0 ?_
                simp only [Act.put, List.setIfInBounds_toArray, List.set_cons_zero, List.set_cons_succ]
                refine wpAnyH_take (i := 8) (v := undef) rfl (by kernel_rfl) (by kernel_rfl) (by kernel_rfl) (fun _ _ _ h => h) (Or.inr ⟨by first | (go_simp; done) | (go_simp; intro h; cases h), rfl⟩) hH0 ?_
                simp only [Act.put, List.setIfInBounds_toArray, List.set_cons_zero, List.set_cons_succ]
                refine wpAnyH_take (i := 9) (v := undef) rfl (by kernel_rfl) (by kernel_rfl) (by kernel_rfl) (fun _ _ _ h => h) (Or.inr ⟨by first | (go_simp; done) | (go_simp; intro h; cases h), rfl⟩) hH0 ?_
                simp only [Act.put, List.setIfInBounds_toArray, List.set_cons_zero, List.set_cons_succ]
                refine wpAnyH_take (i := 10) (v := undef) rfl (by kernel_rfl) (by kernel_rfl) (by kernel_rfl) (fun _ _ _ h => h) (Or.inr ⟨by first | (go_simp; done) | (go_simp; intro h; cases h), rfl⟩) hH0 ?_
                simp only [Act.put, List.setIfInBounds_toArray, List.set_cons_zero, List.set_cons_succ]
                refine wpAnyH_take (i := 11) (v := undef) rfl (by kernel_rfl) (by kernel_rfl) (by kernel_rfl) (fun _ _ _ h => h) (Or.inr ⟨by first | (go_simp; done) | (go_simp; intro h; cases h), rfl⟩) hH0 ?_
                simp only [Act.put, List.setIfInBounds_toArray, List.set_cons_zero, List.set_cons_succ]
                refine wpAnyH_take (i := 12) (v := undef) rfl (by kernel_rfl) (by kernel_rfl) (by kernel_rfl) (fun _ _ _ h => h) (Or.inr ⟨by first | (go_simp; done) | (go_simp; intro h; cases h), rfl⟩) hH0 ?_
                simp only [Act.put, List.setIfInBounds_toArray, List.set_cons_zero, List.set_cons_succ]
                refine wpAnyH_take (i := 13) (v := undef) rfl (by kernel_rfl) (by kernel_rfl) (by kernel_rfl) (fun _ _ _ h => h) (Or.inr ⟨by first | (go_simp; done) | (go_simp; intro h; cases h), rfl⟩) hH0 ?_
                simp only [Act.put, List.setIfInBounds_toArray, List.set_cons_zero, List.set_cons_succ]
                refine wpAnyH_take (i := 14) (v := undef) rfl (by kernel_rfl) (by kernel_rfl) (by kernel_rfl) (fun _ _ _ h => h) (Or.inr ⟨by first | (go_simp; done) | (go_simp; intro h; cases h), rfl⟩) hH0 ?_
                simp only [Act.put, List.setIfInBounds_toArray, List.set_cons_zero, List.set_cons_succ]
                refine wpAnyH_take (i := 15) (v := undef) rfl (by kernel_rfl) (by kernel_rfl) (by kernel_rfl) (fun _ _ _ h => h) (Or.inr ⟨by first | (go_simp; done) | (go_simp; intro h; cases h), rfl⟩) hH0 ?_
                simp only [Act.put, List.setIfInBounds_toArray, List.set_cons_zero, List.set_cons_succ]
                refine wpAnyH_take (i := 16) (v := ?_) rfl (by kernel_rfl) (by kernel_rfl) (by kernel_rfl) (fun _ _ _ h => h) (Or.inl ⟨by go_simp, ?_⟩) hH0 ?_
                rotate_left
                · intro w' hSw
                  go_simp
                  try with_reducible rfl
                simp only [Act.put, List.setIfInBounds_toArray, List.set_cons_zero, List.set_cons_succ]
                refine wpAnyH_take (i := 17) (v := ?_) rfl (by kernel_rfl) (by kernel_rfl) (by kernel_rfl) (fun _ _ _ h => h) (Or.inl ⟨by go_simp, ?_⟩) hH0 ?_
                rotate_left
                · intro w' hSw
                  go_simp
                  try with_reducible rfl
                simp only [Act.put, List.setIfInBounds_toArray, List.set_cons_zero, List.set_cons_succ]
                refine wpAnyH_take (i := 18) (v := ?_) rfl (by kernel_rfl) (by kernel_rfl) (by kernel_rfl) (fun _ _ _ h => h) (Or.inl ⟨by go_simp, ?_⟩) hH0 ?_
                rotate_left
                · intro w' hSw
                  have g0 := Keeps.cell' hSw x0 (fun f => f)
                  have g1 := Keeps.cell' hSw x1 (fun f => f)
                  have g2 := Keeps.cell' hSw x2 (fun f => f)
                  have g3 := Keeps.cell' hSw x3 (fun f => f)
                  have g4 := Keeps.cell' hSw x4 (fun f => f)
                  have g5 := Keeps.cell' hSw x5 (fun f => f)
                  go_simp
                  try with_reducible rfl
                simp only [Act.put, List.setIfInBounds_toArray, List.set_cons_zero, List.set_cons_succ]
                refine wpAnyH_ready (rs := [19]) (by kernel_rfl) (by simp) ?_
                refine AllReadyH.cons rfl (fun K hK => ?_) AllReadyH.nil
                go_simp
                refine (HOO.out _).mono ?_
                rintro e w6 ⟨rfl, hk6⟩
                go_wp2_with fail
                have hH1 := Keeps.trans hH0 hk6 (fun _ _ h => h)
                refine hK.out _ _ hH1 (fun _ => ?_)
                clear hK K
                try simp only [Act.put, List.setIfInBounds_toArray, List.set_cons_zero, List.set_cons_succ]
                refine wpAnyH_take (i := 20) (v := ?_) rfl (by kernel_rfl) (by kernel_rfl) (by kernel_rfl) (fun _ _ _ h => h) (Or.inl ⟨by go_simp, ?_⟩) hH1 ?_
                rotate_left
                · intro w' hSw
                  go_simp
                  try with_reducible rfl
                simp only [Act.put, List.setIfInBounds_toArray, List.set_cons_zero, List.set_cons_succ]
                refine wpAnyH_take (i := 21) (v := ?_) rfl (by kernel_rfl) (by kernel_rfl) (by kernel_rfl) (fun _ _ _ h => h) (Or.inl ⟨by go_simp, ?_⟩) hH1 ?_
                rotate_left
                · intro w' hSw
                  go_simp
                  try with_reducible rfl
                simp only [Act.put, List.setIfInBounds_toArray, List.set_cons_zero, List.set_cons_succ]
                refine wpAnyH_take (i := 22) (v := ?_) rfl (by kernel_rfl) (by kernel_rfl) (by kernel_rfl) (fun _ _ _ h => h) (Or.inl ⟨by go_simp, ?_⟩) hH1 ?_
                rotate_left
                · intro w' hSw
                  go_simp
                  try with_reducible rfl
                simp only [Act.put, List.setIfInBounds_toArray, List.set_cons_zero, List.set_cons_succ]
                refine wpAnyH_take (i := 23) (v := ?_) rfl (by kernel_rfl) (by kernel_rfl) (by kernel_rfl) (fun _ _ _ h => h) (Or.inl ⟨by go_simp, ?_⟩) hH1 ?_
                rotate_left
                · intro w' hSw
                  go_simp
                  try with_reducible rfl
                simp only [Act.put, List.setIfInBounds_toArray, List.set_cons_zero, List.set_cons_succ]
                refine wpAnyH_take (i := 24) (v := ?_) rfl (by kernel_rfl) (by kernel_rfl) (by kernel_rfl) (fun _ _ _ h => h) (Or.inl ⟨by go_simp, ?_⟩) hH1 ?_
                rotate_left
                · intro w' hSw
                  go_simp
                  try with_reducible rfl
                simp only [Act.put, List.setIfInBounds_toArray, List.set_cons_zero, List.set_cons_succ]
                refine wpAnyH_take (i := 25) (v := ?_) rfl (by kernel_rfl) (by kernel_rfl) (by kernel_rfl) (fun _ _ _ h => h) (Or.inl ⟨by go_simp, ?_⟩) hH1 ?_
                rotate_left
                · intro w' hSw
                  go_simp
                  try with_reducible rfl
                simp only [Act.put, List.setIfInBounds_toArray, List.set_cons_zero, List.set_cons_succ]
                refine wpAnyH_ready (rs := [26]) (by kernel_rfl) (by simp) ?_
                refine AllReadyH.cons rfl (fun K hK => ?_) AllReadyH.nil
                go_simp
                refine hK.out _ _ hH1 (fun _ => ?_)
                clear hK K
                try simp only [Act.put, List.setIfInBounds_toArray, List.set_cons_zero, List.set_cons_succ]
                refine wpAnyH_ready (rs := [27]) (by kernel_rfl) (by simp) ?_
                refine AllReadyH.cons rfl (fun K hK => ?_) AllReadyH.nil
                go_simp
                refine hK.out _ _ hH1 (fun _ => ?_)
                clear hK K
                try simp only [Act.put, List.setIfInBounds_toArray, List.set_cons_zero, List.set_cons_succ]
                refine wpAnyH_done (by kernel_rfl) ?_ _
                go_wp2_with fail
                go_meet
                exact ⟨rfl, by rw [HB.out], hH1⟩
              · have HB : Hid (bd = false) := Lib.hid (by rw [← HBD0.out]; exact decide_eq_false (by rintro (h | h); exact absurd h HNP.out; exact absurd h.2 h2))
                have t2 : decide (i < m) = false := decide_eq_false (by have := HM.out; omega)
                clear h2
                refine wp_region_held_drew (S := fun w' => Keeps (fun _ => False) w5 w') (by kernel_rfl) (Keeps.refl _ w5).drew (fun hH0 => ?_)
                refine wpAnyH_take (i := 0) (v := ?_) rfl (by kernel_rfl) (by kernel_rfl) (by kernel_rfl) (fun _ _ _ h => h) (Or.inl ⟨by go_simp, ?_⟩) hH0 ?_
                rotate_left
                · intro w' hSw
                  go_simp
                  try with_reducible rfl
                simp only [Act.put, List.setIfInBounds_toArray, List.set_cons_zero, List.set_cons_succ]
                refine wpAnyH_take (i := 1) (v := ?_) rfl (by kernel_rfl) (by kernel_rfl) (by kernel_rfl) (fun _ _ _ h => h) (Or.inl ⟨by go_simp, ?_⟩) hH0 ?_
                rotate_left
                · intro w' hSw
                  go_simp
                  try with_reducible rfl
                simp only [Act.put, List.setIfInBounds_toArray, List.set_cons_zero, List.set_cons_succ]
                refine wpAnyH_take (i := 2) (v := ?_) rfl (by kernel_rfl) (by kernel_rfl) (by kernel_rfl) (fun _ _ _ h => h) (Or.inl ⟨by go_simp, ?_⟩) hH0 ?_
                rotate_left
                · intro w' hSw
                  go_simp
                  try with_reducible rfl
                simp only [Act.put, List.setIfInBounds_toArray, List.set_cons_zero, List.set_cons_succ]
                refine wpAnyH_take (i := 3) (v := ?_) rfl (by kernel_rfl) (by kernel_rfl) (by kernel_rfl) (fun _ _ _ h => h) (Or.inl ⟨by go_simp, ?_⟩) hH0 ?_
                rotate_left
                · intro w' hSw
                  go_simp
                  try with_reducible rfl
                simp only [Act.put, List.setIfInBounds_toArray, List.set_cons_zero, List.set_cons_succ]
                refine wpAnyH_take (i := 4) (v := ?_) rfl (by kernel_rfl) (by kernel_rfl) (by kernel_rfl) (fun _ _ _ h => h) (Or.inl ⟨by go_simp, ?_⟩) hH0 ?_
                rotate_left
                · intro w' hSw
                  go_simp
                  try with_reducible rfl
                simp only [Act.put, List.setIfInBounds_toArray, List.set_cons_zero, List.set_cons_succ]
                refine wpAnyH_take (i := 5) (v := ?_) rfl (by kernel_rfl) (by kernel_rfl) (by kernel_rfl) (fun _ _ _ h => h) (Or.inl ⟨by go_simp, ?_⟩) hH0 ?_
                rotate_left
                · intro w' hSw
                  go_simp
                  try with_reducible rfl
                simp only [Act.put, List.setIfInBounds_toArray, List.set_cons_zero, List.set_cons_succ]
                refine wpAnyH_take (i := 6) (v := undef) rfl (by kernel_rfl) (by kernel_rfl) (by kernel_rfl) (fun _ _ _ h => h) (Or.inr ⟨by first | (go_simp; done) | (go_simp; intro h; cases h), rfl⟩) hH0 ?_
                simp only [Act.put, List.setIfInBounds_toArray, List.set_cons_zero, List.set_cons_succ]
                refine wpAnyH_take (i := 7) (v := undef) rfl (by kernel_rfl) (by kernel_rfl) (by kernel_rfl) (fun _ _ _ h => h) (Or.inr ⟨by first | (go_simp; done) | (go_simp; intro h; cases h), rfl⟩) hH0 ?_
                simp only [Act.put, List.setIfInBounds_toArray, List.set_cons_zero, List.set_cons_succ]
                refine wpAnyH_take (i := 8) (v := undef) rfl (by kernel_rfl) (by kernel_rfl) (by kernel_rfl) (fun _ _ _ h => h) (Or.inr ⟨by first | (go_simp; done) | (go_simp; intro h; cases h), rfl⟩) hH0 ?_
                simp only [Act.put, List.setIfInBounds_toArray, List.set_cons_zero, List.set_cons_succ]
                refine wpAnyH_take (i := 9) (v := undef) rfl (by kernel_rfl) (by kernel_rfl) (by kernel_rfl) (fun _ _ _ h => h) (Or.inr ⟨by first | (go_simp; done) | (go_simp; intro h; cases h), rfl⟩) hH0 ?_
                simp only [Act.put, List.setIfInBounds_toArray, List.set_cons_zero, List.set_cons_succ]
                refine wpAnyH_take (i := 10) (v := undef) rfl (by kernel_rfl) (by kernel_rfl) (by kernel_rfl) (fun _ _ _ h => h) (Or.inr ⟨by first | (go_simp; done) | (go_simp; intro h; cases h), rfl⟩) hH0 ?_
                simp only [Act.put, List.setIfInBounds_toArray, List.set_cons_zero, List.set_cons_succ]
                refine wpAnyH_take (i := 11) (v := undef) rfl (by kernel_rfl) (by kernel_rfl) (by kernel_rfl) (fun _ _ _ h => h) (Or.inr ⟨by first | (go_simp; done) | (go_simp; intro h; cases h), rfl⟩) hH0 ?_
                simp only [Act.put, List.setIfInBounds_toArray, List.set_cons_zero, List.set_cons_succ]
                refine wpAnyH_take (i := 12) (v := undef) rfl (by kernel_rfl) (by kernel_rfl) (by kernel_rfl) (fun _ _ _ h => h) (Or.inr ⟨by first | (go_simp; done) | (go_simp; intro h; cases h), rfl⟩) hH0 ?_
                simp only [Act.put, List.setIfInBounds_toArray, List.set_cons_zero, List.set_cons_succ]
                refine wpAnyH_take (i := 13) (v := undef) rfl (by kernel_rfl) (by kernel_rfl) (by kernel_rfl) (fun _ _ _ h => h) (Or.inr ⟨by first | (go_simp; done) | (go_simp; intro h; cases h), rfl⟩) hH0 ?_
                simp only [Act.put, List.setIfInBounds_toArray, List.set_cons_zero, List.set_cons_succ]
                refine wpAnyH_take (i := 14) (v := undef) rfl (by kernel_rfl) (by kernel_rfl) (by kernel_rfl) (fun _ _ _ h => h) (Or.inr ⟨by first | (go_simp; done) | (go_simp; intro h; cases h), rfl⟩) hH0 ?_
                simp only [Act.put, List.setIfInBounds_toArray, List.set_cons_zero, List.set_cons_succ]
                refine wpAnyH_take (i := 15) (v := undef) rfl (by kernel_rfl) (by kernel_rfl) (by kernel_rfl) (fun _ _ _ h => h) (Or.inr ⟨by first | (go_simp; done) | (go_simp; intro h; cases h), rfl⟩) hH0 ?_
                simp only [Act.put, List.setIfInBounds_toArray, List.set_cons_zero, List.set_cons_succ]
                refine wpAnyH_take (i := 16) (v := ?_) rfl (by kernel_rfl) (by kernel_rfl) (by kernel_rfl) (fun _ _ _ h => h) (Or.inl ⟨by go_simp, ?_⟩) hH0 ?_
                rotate_left
                · intro w' hSw
                  go_simp
                  try with_reducible rfl
                simp only [Act.put, List.setIfInBounds_toArray, List.set_cons_zero, List.set_cons_succ]
                refine wpAnyH_take (i := 17) (v := ?_) rfl (by kernel_rfl) (by kernel_rfl) (by kernel_rfl) (fun _ _ _ h => h) (Or.inl ⟨by go_simp, ?_⟩) hH0 ?_
                rotate_left
                · intro w' hSw
                  go_simp
                  try with_reducible rfl
                simp only [Act.put, List.setIfInBounds_toArray, List.set_cons_zero, List.set_cons_succ]
                refine wpAnyH_take (i := 18) (v := ?_) rfl (by kernel_rfl) (by kernel_rfl) (by kernel_rfl) (fun _ _ _ h => h) (Or.inl ⟨by go_simp, ?_⟩) hH0 ?_
                rotate_left
                · intro w' hSw
                  have g0 := Keeps.cell' hSw x0 (fun f => f)
                  have g1 := Keeps.cell' hSw x1 (fun f => f)
                  have g2 := Keeps.cell' hSw x2 (fun f => f)
                  have g3 := Keeps.cell' hSw x3 (fun f => f)
                  have g4 := Keeps.cell' hSw x4 (fun f => f)
                  have g5 := Keeps.cell' hSw x5 (fun f => f)
                  go_simp
                  try with_reducible rfl
                simp only [Act.put, List.setIfInBounds_toArray, List.set_cons_zero, List.set_cons_succ]
                refine wpAnyH_ready (rs := [19]) (by kernel_rfl) (by simp) ?_
                refine AllReadyH.cons rfl (fun K hK => ?_) AllReadyH.nil
                go_simp
                refine (HOO.out _).mono ?_
                rintro e w6 ⟨rfl, hk6⟩
                go_wp2_with fail
                have hH1 := Keeps.trans hH0 hk6 (fun _ _ h => h)
                refine hK.out _ _ hH1 (fun _ => ?_)
                clear hK K
                try simp only [Act.put, List.setIfInBounds_toArray, List.set_cons_zero, List.set_cons_succ]
                refine wpAnyH_take (i := 20) (v := ?_) rfl (by kernel_rfl) (by kernel_rfl) (by kernel_rfl) (fun _ _ _ h => h) (Or.inl ⟨by go_simp, ?_⟩) hH1 ?_
                rotate_left
                · intro w' hSw
                  go_simp
                  try with_reducible rfl
                simp only [Act.put, List.setIfInBounds_toArray, List.set_cons_zero, List.set_cons_succ]
                refine wpAnyH_take (i := 21) (v := ?_) rfl (by kernel_rfl) (by kernel_rfl) (by kernel_rfl) (fun _ _ _ h => h) (Or.inl ⟨by go_simp, ?_⟩) hH1 ?_
                rotate_left
                · intro w' hSw
                  go_simp
                  try with_reducible rfl
                simp only [Act.put, List.setIfInBounds_toArray, List.set_cons_zero, List.set_cons_succ]
                refine wpAnyH_take (i := 22) (v := ?_) rfl (by kernel_rfl) (by kernel_rfl) (by kernel_rfl) (fun _ _ _ h => h) (Or.inl ⟨by go_simp, ?_⟩) hH1 ?_
                rotate_left
                · intro w' hSw
                  go_simp
                  try with_reducible rfl
                simp only [Act.put, List.setIfInBounds_toArray, List.set_cons_zero, List.set_cons_succ]
                refine wpAnyH_take (i := 23) (v := ?_) rfl (by kernel_rfl) (by kernel_rfl) (by kernel_rfl) (fun _ _ _ h => h) (Or.inl ⟨by go_simp, ?_⟩) hH1 ?_
                rotate_left
                · intro w' hSw
                  go_simp
                  try with_reducible rfl
                simp only [Act.put, List.setIfInBounds_toArray, List.set_cons_zero, List.set_cons_succ]
                refine wpAnyH_take (i := 24) (v := ?_) rfl (by kernel_rfl) (by kernel_rfl) (by kernel_rfl) (fun _ _ _ h => h) (Or.inl ⟨by go_simp, ?_⟩) hH1 ?_
                rotate_left
                · intro w' hSw
                  go_simp
                  try with_reducible rfl
                simp only [Act.put, List.setIfInBounds_toArray, List.set_cons_zero, List.set_cons_succ]
                refine wpAnyH_take (i := 25) (v := ?_) rfl (by kernel_rfl) (by kernel_rfl) (by kernel_rfl) (fun _ _ _ h => h) (Or.inl ⟨by go_simp, ?_⟩) hH1 ?_
                rotate_left
                · intro w' hSw
                  go_simp
                  try with_reducible rfl
                simp only [Act.put, List.setIfInBounds_toArray, List.set_cons_zero, List.set_cons_succ]
                refine wpAnyH_ready (rs := [26]) (by kernel_rfl) (by simp) ?_
                refine AllReadyH.cons rfl (fun K hK => ?_) AllReadyH.nil
                go_simp
                refine hK.out _ _ hH1 (fun _ => ?_)
                clear hK K
                try simp only [Act.put, List.setIfInBounds_toArray, List.set_cons_zero, List.set_cons_succ]
                refine wpAnyH_ready (rs := [27]) (by kernel_rfl) (by simp) ?_
                refine AllReadyH.cons rfl (fun K hK => ?_) AllReadyH.nil
                go_simp
                refine hK.out _ _ hH1 (fun _ => ?_)
                clear hK K
                try simp only [Act.put, List.setIfInBounds_toArray, List.set_cons_zero, List.set_cons_succ]
                refine wpAnyH_done (by kernel_rfl) ?_ _
                go_wp2_with fail
                go_meet
                exact ⟨rfl, by rw [HB.out], hH1⟩
        case rest =>
          obtain ⟨rfl, rfl, hk6⟩ := hcut
          have HK6 := Lib.hid (HK5.out.trans hk6 (fun _ _ h => h))
          have hk6k := hk6
          clear x0 x1 x2 x3 x4 x5 cc2 hk6
          have gs := (HE.out.quiet HK6.out).shape
          cases bd
          · have HN2 := Lib.hid (HNX.out (by rw [HEA2.out]; rfl))
            have HK7 := Lib.hid (HKL.out.trans hk6k (fun _ _ h => h))
            go_wp2_with fail
            go_roundw
            case rel => exact ⟨i + 1, by omega, by go_num, HK7.out, HN2.out⟩
            case measure => simp [intOf]; omega
          · have HB2 := Lib.hid (show Ir.fault many l = (3, (i : Int)) by rw [HBD.out (by rw [HEA2.out]; decide), HEA2.out]; rfl)
            clear hk6k
            go_wp2_with fail
            go_ret
            exact ⟨⟨_, rfl, FaultIs.placed HB2.out (by decide) (by omega) wc⟩, HK6.out.alloc _⟩
      · have HB2 := Lib.hid (show Ir.fault many l = (ec, (i : Int)) by rw [HBD.out (by rw [HEA.out, if_pos hec]; exact hec), HEA.out, if_pos hec])
        have hec2 := Lib.hid hec
        rw [show errOf0 ea ec = .iface 275 (.pointer (some (ea ec))) from if_neg hec]
        clear hec
        go_upto_region 12 with fail
        refine wp_region_held_drew (S := fun w' => Keeps (fun _ => False) w5 w') (by kernel_rfl) (Keeps.refl _ w5).drew (fun hH0 => ?_)
        refine wpAnyH_take (i := 0) (v := ?_) rfl (by kernel_rfl) (by kernel_rfl) (by kernel_rfl) (fun _ _ _ h => h) (Or.inl ⟨by go_simp, ?_⟩) hH0 ?_
        rotate_left
        · intro w' hSw
          go_simp
          try with_reducible rfl
        simp only [Act.put, List.setIfInBounds_toArray, List.set_cons_zero, List.set_cons_succ]
        refine wpAnyH_take (i := 1) (v := ?_) rfl (by kernel_rfl) (by kernel_rfl) (by kernel_rfl) (fun _ _ _ h => h) (Or.inl ⟨by go_simp, ?_⟩) hH0 ?_
        rotate_left
        · intro w' hSw
          go_simp
          try with_reducible rfl
        simp only [Act.put, List.setIfInBounds_toArray, List.set_cons_zero, List.set_cons_succ]
        refine wpAnyH_take (i := 2) (v := ?_) rfl (by kernel_rfl) (by kernel_rfl) (by kernel_rfl) (fun _ _ _ h => h) (Or.inl ⟨by go_simp, ?_⟩) hH0 ?_
        rotate_left
        · intro w' hSw
          go_simp
          try with_reducible rfl
        simp only [Act.put, List.setIfInBounds_toArray, List.set_cons_zero, List.set_cons_succ]
        refine wpAnyH_take (i := 3) (v := undef) rfl (by kernel_rfl) (by kernel_rfl) (by kernel_rfl) (fun _ _ _ h => h) (Or.inr ⟨by first | (go_simp; done) | (go_simp; intro h; cases h), rfl⟩) hH0 ?_
        simp only [Act.put, List.setIfInBounds_toArray, List.set_cons_zero, List.set_cons_succ]
        refine wpAnyH_take (i := 4) (v := undef) rfl (by kernel_rfl) (by kernel_rfl) (by kernel_rfl) (fun _ _ _ h => h) (Or.inr ⟨by first | (go_simp; done) | (go_simp; intro h; cases h), rfl⟩) hH0 ?_
        simp only [Act.put, List.setIfInBounds_toArray, List.set_cons_zero, List.set_cons_succ]
        refine wpAnyH_take (i := 5) (v := undef) rfl (by kernel_rfl) (by kernel_rfl) (by kernel_rfl) (fun _ _ _ h => h) (Or.inr ⟨by first | (go_simp; done) | (go_simp; intro h; cases h), rfl⟩) hH0 ?_
        simp only [Act.put, List.setIfInBounds_toArray, List.set_cons_zero, List.set_cons_succ]
        refine wpAnyH_take (i := 6) (v := undef) rfl (by kernel_rfl) (by kernel_rfl) (by kernel_rfl) (fun _ _ _ h => h) (Or.inr ⟨by first | (go_simp; done) | (go_simp; intro h; cases h), rfl⟩) hH0 ?_
        simp only [Act.put, List.setIfInBounds_toArray, List.set_cons_zero, List.set_cons_succ]
        refine wpAnyH_take (i := 7) (v := undef) rfl (by kernel_rfl) (by kernel_rfl) (by kernel_rfl) (fun _ _ _ h => h) (Or.inr ⟨by first | (go_simp; done) | (go_simp; intro h; cases h), rfl⟩) hH0 ?_
        simp only [Act.put, List.setIfInBounds_toArray, List.set_cons_zero, List.set_cons_succ]
        refine wpAnyH_take (i := 8) (v := undef) rfl (by kernel_rfl) (by kernel_rfl) (by kernel_rfl) (fun _ _ _ h => h) (Or.inr ⟨by first | (go_simp; done) | (go_simp; intro h; cases h), rfl⟩) hH0 ?_
        simp only [Act.put, List.setIfInBounds_toArray, List.set_cons_zero, List.set_cons_succ]
        refine wpAnyH_take (i := 9) (v := undef) rfl (by kernel_rfl) (by kernel_rfl) (by kernel_rfl) (fun _ _ _ h => h) (Or.inr ⟨by first | (go_simp; done) | (go_simp; intro h; cases h), rfl⟩) hH0 ?_
        simp only [Act.put, List.setIfInBounds_toArray, List.set_cons_zero, List.set_cons_succ]
        refine wpAnyH_take (i := 10) (v := undef) rfl (by kernel_rfl) (by kernel_rfl) (by kernel_rfl) (fun _ _ _ h => h) (Or.inr ⟨by first | (go_simp; done) | (go_simp; intro h; cases h), rfl⟩) hH0 ?_
        simp only [Act.put, List.setIfInBounds_toArray, List.set_cons_zero, List.set_cons_succ]
        refine wpAnyH_take (i := 11) (v := undef) rfl (by kernel_rfl) (by kernel_rfl) (by kernel_rfl) (fun _ _ _ h => h) (Or.inr ⟨by first | (go_simp; done) | (go_simp; intro h; cases h), rfl⟩) hH0 ?_
        simp only [Act.put, List.setIfInBounds_toArray, List.set_cons_zero, List.set_cons_succ]
        refine wpAnyH_take (i := 12) (v := undef) rfl (by kernel_rfl) (by kernel_rfl) (by kernel_rfl) (fun _ _ _ h => h) (Or.inr ⟨by first | (go_simp; done) | (go_simp; intro h; cases h), rfl⟩) hH0 ?_
        simp only [Act.put, List.setIfInBounds_toArray, List.set_cons_zero, List.set_cons_succ]
        refine wpAnyH_take (i := 13) (v := undef) rfl (by kernel_rfl) (by kernel_rfl) (by kernel_rfl) (fun _ _ _ h => h) (Or.inr ⟨by first | (go_simp; done) | (go_simp; intro h; cases h), rfl⟩) hH0 ?_
        simp only [Act.put, List.setIfInBounds_toArray, List.set_cons_zero, List.set_cons_succ]
        refine wpAnyH_take (i := 14) (v := undef) rfl (by kernel_rfl) (by kernel_rfl) (by kernel_rfl) (fun _ _ _ h => h) (Or.inr ⟨by first | (go_simp; done) | (go_simp; intro h; cases h), rfl⟩) hH0 ?_
        simp only [Act.put, List.setIfInBounds_toArray, List.set_cons_zero, List.set_cons_succ]
        refine wpAnyH_take (i := 15) (v := undef) rfl (by kernel_rfl) (by kernel_rfl) (by kernel_rfl) (fun _ _ _ h => h) (Or.inr ⟨by first | (go_simp; done) | (go_simp; intro h; cases h), rfl⟩) hH0 ?_
        simp only [Act.put, List.setIfInBounds_toArray, List.set_cons_zero, List.set_cons_succ]
        refine wpAnyH_take (i := 16) (v := undef) rfl (by kernel_rfl) (by kernel_rfl) (by kernel_rfl) (fun _ _ _ h => h) (Or.inr ⟨by first | (go_simp; done) | (go_simp; intro h; cases h), rfl⟩) hH0 ?_
        simp only [Act.put, List.setIfInBounds_toArray, List.set_cons_zero, List.set_cons_succ]
        refine wpAnyH_take (i := 17) (v := undef) rfl (by kernel_rfl) (by kernel_rfl) (by kernel_rfl) (fun _ _ _ h => h) (Or.inr ⟨by first | (go_simp; done) | (go_simp; intro h; cases h), rfl⟩) hH0 ?_
        simp only [Act.put, List.setIfInBounds_toArray, List.set_cons_zero, List.set_cons_succ]
        refine wpAnyH_take (i := 18) (v := undef) rfl (by kernel_rfl) (by kernel_rfl) (by kernel_rfl) (fun _ _ _ h => h) (Or.inr ⟨by first | (go_simp; done) | (go_simp; intro h; cases h), rfl⟩) hH0 ?_
        simp only [Act.put, List.setIfInBounds_toArray, List.set_cons_zero, List.set_cons_succ]
        refine wpAnyH_take (i := 19) (v := undef) rfl (by kernel_rfl) (by kernel_rfl) (by kernel_rfl) (fun _ _ _ h => h) (Or.inr ⟨by first | (go_simp; done) | (go_simp; intro h; cases h), rfl⟩) hH0 ?_
        simp only [Act.put, List.setIfInBounds_toArray, List.set_cons_zero, List.set_cons_succ]
        refine wpAnyH_take (i := 20) (v := undef) rfl (by kernel_rfl) (by kernel_rfl) (by kernel_rfl) (fun _ _ _ h => h) (Or.inr ⟨by first | (go_simp; done) | (go_simp; intro h; cases h), rfl⟩) hH0 ?_
        simp only [Act.put, List.setIfInBounds_toArray, List.set_cons_zero, List.set_cons_succ]
        refine wpAnyH_take (i := 21) (v := undef) rfl (by kernel_rfl) (by kernel_rfl) (by kernel_rfl) (fun _ _ _ h => h) (Or.inr ⟨by first | (go_simp; done) | (go_simp; intro h; cases h), rfl⟩) hH0 ?_
        simp only [Act.put, List.setIfInBounds_toArray, List.set_cons_zero, List.set_cons_succ]
        refine wpAnyH_take (i := 22) (v := undef) rfl (by kernel_rfl) (by kernel_rfl) (by kernel_rfl) (fun _ _ _ h => h) (Or.inr ⟨by first | (go_simp; done) | (go_simp; intro h; cases h), rfl⟩) hH0 ?_
        simp only [Act.put, List.setIfInBounds_toArray, List.set_cons_zero, List.set_cons_succ]
        refine wpAnyH_take (i := 23) (v := undef) rfl (by kernel_rfl) (by kernel_rfl) (by kernel_rfl) (fun _ _ _ h => h) (Or.inr ⟨by first | (go_simp; done) | (go_simp; intro h; cases h), rfl⟩) hH0 ?_
        simp only [Act.put, List.setIfInBounds_toArray, List.set_cons_zero, List.set_cons_succ]
        refine wpAnyH_take (i := 24) (v := undef) rfl (by kernel_rfl) (by kernel_rfl) (by kernel_rfl) (fun _ _ _ h => h) (Or.inr ⟨by first | (go_simp; done) | (go_simp; intro h; cases h), rfl⟩) hH0 ?_
        simp only [Act.put, List.setIfInBounds_toArray, List.set_cons_zero, List.set_cons_succ]
        refine wpAnyH_take (i := 25) (v := undef) rfl (by kernel_rfl) (by kernel_rfl) (by kernel_rfl) (fun _ _ _ h => h) (Or.inr ⟨by first | (go_simp; done) | (go_simp; intro h; cases h), rfl⟩) hH0 ?_
        simp only [Act.put, List.setIfInBounds_toArray, List.set_cons_zero, List.set_cons_succ]
        refine wpAnyH_ready (rs := [26]) (by kernel_rfl) (by simp) ?_
        refine AllReadyH.cons rfl (fun K hK => ?_) AllReadyH.nil
        go_simp
        refine hK.out _ _ hH0 (fun _ => ?_)
        clear hK K
        try simp only [Act.put, List.setIfInBounds_toArray, List.set_cons_zero, List.set_cons_succ]
        refine wpAnyH_ready (rs := [27]) (by kernel_rfl) (by simp) ?_
        refine AllReadyH.cons rfl (fun K hK => ?_) AllReadyH.nil
        go_simp
        refine hK.out _ _ hH0 (fun _ => ?_)
        clear hK K
        try simp only [Act.put, List.setIfInBounds_toArray, List.set_cons_zero, List.set_cons_succ]
        refine wpAnyH_done (by kernel_rfl) ?_ _
        go_wp2_with fail
        go_ret
        exact ⟨⟨_, rfl, FaultIs.placed HB2.out hec2.out (by omega) _⟩, (HK5.out.trans hH0 (fun _ _ h => h)).alloc _⟩
    · have HNO := Lib.hid (show Ir.fault many l = (0, -1) by rw [HF.out, Ir.firstBad_none (fun j hj => HZ.out j (by have := HL.out; omega))])
      go_wp2_with fail
      go_ret
      exact ⟨⟨_, rfl, .inl ⟨by rw [HNO.out], rfl⟩⟩, HKR.out⟩
end Go.Proofs.YtknhfobcejpmeaaGreatDoor
