import Derived.Test.YtlmnmncdoiealaaGreatDoorMem
import Derived.Test.YtlmnmncdoiealaaGreatDoorProg
import Derived.BigQuiet
import Derived.LoopTactic
import Derived.Lib.Hide
import Derived.Test.YtlmnmncdoiealaaGreatDoorKaz23
import Derived.Test.YtlmnmncdoiealaaGreatDoorKaz19
import Derived.ProofKit
import Derived.OpenShut
import Derived.Test.YtlmnmncdoiealaaGreatDoorFacts
import Derived.Test.YtlmnmncdoiealaaGreatDoorIrOps
import Derived.Deep.Slices
import Derived.Deep.Fields

/- Same -/
/- The walk of the reference's SameInts over rows that are the same. -/
namespace Go.Proofs.YtlmnmncdoiealaaGreatDoor
open Go.RowKit Go.Deep
set_option linter.unusedVariables false

set_option maxRecDepth 100000 in
set_option maxHeartbeats 1000000 in
theorem sameRows_any (A B : Option Addr) (n ca cb : Nat) (f : Nat → Int) (w : World) (h1 : Reads w A n ca (fun i => .int .i64 (f i))) (h2 : Reads w B n cb (fun i => .int .i64 (f i))) (hca : ca ≤ 9223372036854775807) (hcb : cb ≤ 9223372036854775807) :
    Calls Tryz.prog 20 #[.slice A n ca, .slice B n cb] w fun e w' => e = .returned (.bool true) ∧ Keeps (fun _ => False) w w' := by
  have b1 := h1.1
  have b2 := h2.1
  have H1 := Lib.hid h1
  have H2 := Lib.hid h2
  clear h1 h2
  go_enter Tryz.func20, Tryz.ntmps20
  go_wp2_with fail
  go_loopw [5] (fun s5 wr => ∃ i : Nat, i ≤ n ∧ s5 = .int .i64 i ∧ Keeps (fun _ => False) w wr) (fun s5 _ => n - (intOf s5).toNat)
  case atStart => exact ⟨0, by omega, rfl, Keeps.refl _ w⟩
  case round =>
    obtain ⟨i, hi, rfl, hK⟩ := hrel
    by_cases hlt : i < n
    · obtain ⟨ga, oa, rfl, p1⟩ : ∃ g o, A = some ⟨g, o, none⟩ ∧ wr.cell? ⟨g, o + i, none⟩ = some (.int .i64 (f i)) := by
        obtain ⟨_, h3 | ⟨g, o, h3, _, h4⟩⟩ := H1.out.keep hK (fun _ _ _ h => h)
        · omega
        · exact ⟨g, o, h3, h4 i hlt⟩
      obtain ⟨gb, ob, rfl, p2⟩ : ∃ g o, B = some ⟨g, o, none⟩ ∧ wr.cell? ⟨g, o + i, none⟩ = some (.int .i64 (f i)) := by
        obtain ⟨_, h3 | ⟨g, o, h3, _, h4⟩⟩ := H2.out.keep hK (fun _ _ _ h => h)
        · omega
        · exact ⟨g, o, h3, h4 i hlt⟩
      go_wp2_with fail
      go_quiet (fail)
      go_wp2_with fail
      go_roundw
      case rel => exact ⟨i + 1, by omega, by go_num, hK.drewN _⟩
      case measure => simp [intOf]; omega
    · obtain rfl : i = n := by omega
      go_wp2_with fail
      go_ret
      exact ⟨rfl, hK⟩
end Go.Proofs.YtlmnmncdoiealaaGreatDoor

/- Kept -/
/- The walk of the law's kept: a closed fact. -/
namespace Go.Proofs.YtlmnmncdoiealaaGreatDoor
open Go.RowKit Go.Deep
set_option linter.unusedVariables false
set_option linter.unusedSimpArgs false

def keptOp (imm : Int) : Ir.Op := ⟨⟨#[111, 117, 116]⟩, 0, 0, 0, imm, 0⟩
theorem kept_fault8 : (Ir.planFault 1 [[keptOp 8]]).1 = 0 := by decide +kernel
theorem kept_fault0 : (Ir.planFault 1 [[keptOp 0]]).1 = 0 := by decide +kernel
theorem putL_one (mx : Int) (h : 1 ≤ mx) (k : K4) : putL mx [] k = [k] := by
  unfold putL npK
  simp
  omega
theorem KT.below {B : Nat} {w0 w w' : World} (h : Keeps (KT B w) w w') (k : Keeps (fun _ => False) w0 w) (hB : w0.heap.size ≤ B) : Keeps (fun _ => False) w0 w' := k.trans h (fun b hb h => by
  have := h.1
  omega)
set_option maxHeartbeats 8000000 in
set_option maxRecDepth 100000 in
theorem kept_any (w : World) (ea : Nat → Addr) (E : ErrsR w ea) :
    Calls Tryz.prog 4 #[] w fun e w' => e = .returned (.bool true) ∧ Keeps (fun _ => False) w w' := by
  have HE := Lib.hid E
  clear E
  have HNEW := Lib.hid (keepNew_any 1 (fun _ => []) (fun _ => []) w (by omega) (by omega))
  go_enter Tryz.func4, Tryz.ntmps4
  go_upto_region 1 with fail
  go_wp2_with fail
  refine (HNEW.out).mono ?_
  rintro e w1 ⟨kb, rfl, hK, hk⟩
  have HK1 := Lib.hid hK
  have HKK1 := Lib.hid hk
  clear hK hk
  obtain ⟨B, hB⟩ : ∃ B, w.heap.size = B := ⟨_, rfl⟩
  rw [hB] at HK1
  have HBE := Lib.hid hB
  clear hB
  go_upto_region 2 with fail
  have HR := Lib.hid (show RowsOwn ((w1.alloc (.cells #[.string ⟨#[111, 117, 116]⟩, .int .i64 0, .int .i64 0, .int .i64 0, .int .u32 8, .int .i64 0] 64)).alloc (.cells #[.slice (some ⟨w1.heap.size, 0, none⟩) 1 1] 40)) 0 (.slice (some ⟨w1.heap.size + 1, 0, none⟩) 1 1) [[keptOp 8]] from RowsOwn.one w1 (keptOp 8))
  have HA := Lib.hid (show Keeps (fun _ => False) w1 ((w1.alloc (.cells #[.string ⟨#[111, 117, 116]⟩, .int .i64 0, .int .i64 0, .int .i64 0, .int .u32 8, .int .i64 0] 64)).alloc (.cells #[.slice (some ⟨w1.heap.size, 0, none⟩) 1 1] 40)) from ((Keeps.refl (fun _ => False) w1).alloc _).alloc _)
  have HSZ := Lib.hid (show w1.heap.size + 1 + 1 = ((w1.alloc (.cells #[.string ⟨#[111, 117, 116]⟩, .int .i64 0, .int .i64 0, .int .i64 0, .int .u32 8, .int .i64 0] 64)).alloc (.cells #[.slice (some ⟨w1.heap.size, 0, none⟩) 1 1] 40)).heap.size from by rw [nblk_alloc, nblk_alloc])
  go_upto_region 3 with fail
  rw [HSZ.out]
  clear HSZ
  generalize (w1.alloc _).alloc _ = w2 at *
  generalize w1.heap.size + 1 = g at *
  have HPB := Lib.hid (PlanBox.new w2 8 1 (some ⟨g, 0, none⟩) 1 1)
  have HA3 := Lib.hid (HA.out.trans ((Keeps.refl (fun _ => False) w2).alloc (.cells #[.int .u32 8, .int .i64 1, .slice (some ⟨g, 0, none⟩) 1 1] 48)) (fun _ _ h => h))
  have HR3 := Lib.hid (HR.out.quiet ((Keeps.refl (fun _ => False) w2).alloc (.cells #[.int .u32 8, .int .i64 1, .slice (some ⟨g, 0, none⟩) 1 1] 48)))
  generalize w2.alloc _ = w3 at *
  generalize w2.heap.size = pb at *
  obtain ⟨d0, d1, d2, _⟩ := HPB.out.cells
  have HI := Lib.hid (show IOwn (w3.alloc (.cells #[.int .i64 3] 3)) 0 [3] (.slice (some ⟨w3.heap.size, 0, none⟩) 1 1) from IOwn.lit w3 [3] (by decide))
  have HA4 := Lib.hid (HA3.out.trans ((Keeps.refl (fun _ => False) w3).alloc (.cells #[.int .i64 3] 3)) (fun _ _ h => h))
  have HR4 := Lib.hid (HR3.out.quiet ((Keeps.refl (fun _ => False) w3).alloc (.cells #[.int .i64 3] 3)))
  have HPUT := Lib.hid (fun wx (k : Keeps (fun _ => False) w1 wx) V R => keepPut_any B kb 1 [] (fun _ => []) (fun _ => []) 8 1 (some ⟨g, 0, none⟩) 1 1 [[keptOp 8]] (some ⟨w3.heap.size, 0, none⟩) 1 1 [3] wx ea (HE.out.quiet (HKK1.out.trans k (fun _ _ h => h))) (HK1.out.quiet k) (by decide) V kept_fault8 R (by decide))
  go_wp2_with fail
  refine (HPUT.out _ HA4.out HR4.out HI.out).mono ?_
  rintro e w5 ⟨rfl, k, pg, rw_, hk1, hk2, hk3, hk4, _, hK5, hk5⟩
  have HK5 := Lib.hid (show KeepAt w5 B kb 1 [k] pg rw_ from by
    have := hK5
    rwa [putL_one 1 (by omega)] at this)
  have HKK5 := Lib.hid (KT.below hk5 (HKK1.out.trans HA4.out (fun _ _ h => h)) (by have := HBE.out; omega))
  have HKF := Lib.hid (And.intro hk1 (And.intro hk3 hk4))
  have HGET := Lib.hid (keepGet_any B kb 1 [k] pg rw_ 8 w5 HK5.out (by simp))
  clear hk1 hk2 hk3 hk4 hK5 hk5 d0 d1 d2
  go_wp2_with fail
  refine (HGET.out).mono ?_
  rintro e w6 (⟨i, gg, gn, hi, h1, h2, rfl, hro, hK6, hk6⟩ | ⟨hno, _⟩)
  · have hi0 : i = 0 := by
      have : i < 1 := hi
      omega
    subst hi0
    have HK6 := Lib.hid (show KeepAt w6 B kb 1 [k] pg rw_ from hK6)
    have HKK6 := Lib.hid (KT.below hk6 HKK5.out (by have := HBE.out; omega))
    have hpc : ([k].getD 0 k40).pc = 8 := HKF.out.1
    rw [hpc]
    clear hpc h1 h2 hro hK6 hk6 hi
    obtain ⟨many, hmany⟩ : ∃ m, ([k].getD 0 k40).many = m := ⟨_, rfl⟩
    rw [hmany]
    clear hmany
    have HPB6 := Lib.hid (PlanBox.new w6 8 many (some ⟨gg, 0, none⟩) gn gn)
    have HA6 := Lib.hid ((Keeps.refl (fun _ => False) w6).alloc (.cells #[.int .u32 8, .int .i64 many, .slice (some ⟨gg, 0, none⟩) gn gn] 48))
    go_upto_region 6 with fail
    have HK7 := Lib.hid (HK6.out.quiet HA6.out)
    have HKK7 := Lib.hid (HKK6.out.trans HA6.out (fun _ _ h => h))
    generalize w6.alloc _ = w7 at *
    generalize w6.heap.size = xb at *
    obtain ⟨d0, _⟩ := HPB6.out.cells
    have HPG := Lib.hid (keepPages_any B kb 1 [k] pg rw_ w7 HK7.out (by simp))
    have HUQ := Lib.hid (show uniqI ([k].flatMap pg) = [3] from by
      have h := HKF.out.2.1
      simp only [List.flatMap_cons, List.flatMap_nil, List.append_nil]
      rw [h]
      decide +kernel)
    go_wp2_with fail
    refine (HPG.out).mono ?_
    rintro e w8 ⟨v8, rfl, ho8, hk8⟩
    rw [HUQ.out] at ho8
    have HO8 := Lib.hid ho8
    obtain ⟨A8, c8, hv8, _⟩ := id ho8
    have hv8 : v8 = .slice A8 1 c8 := hv8
    subst hv8
    have HKK8 := Lib.hid (HKK7.out.trans hk8 (fun _ _ h => h))
    have HK8 := Lib.hid (HK7.out.quiet hk8)
    have HA8 := Lib.hid ((Keeps.refl (fun _ => False) w8).alloc (.cells #[.int .i64 3] 3))
    have HI8 := Lib.hid (show IOwn (w8.alloc (.cells #[.int .i64 3] 3)) 0 [3] (.slice (some ⟨w8.heap.size, 0, none⟩) 1 1) from IOwn.lit w8 [3] (by decide))
    have HO9 := Lib.hid (HO8.out.keep HA8.out (fun _ _ _ _ h => h))
    have HSM := Lib.hid (sameRows_any A8 (some ⟨w8.heap.size, 0, none⟩) 1 c8 1 (fun i => [3].getD i 0) (w8.alloc (.cells #[.int .i64 3] 3)) HO9.out.reads.2.2 HI8.out.reads.2.2 HO9.out.reads.2.1 (by decide))
    clear ho8 hk8 d0
    go_wp2_with fail
    refine (HSM.out).mono ?_
    rintro e w9 ⟨rfl, hk9⟩
    have HKK9 := Lib.hid ((HKK8.out.trans HA8.out (fun _ _ h => h)).trans hk9 (fun _ _ h => h))
    have HK9 := Lib.hid ((HK8.out.quiet HA8.out).quiet hk9)
    have HPC := Lib.hid (keepPCs_any B kb 1 [k] pg rw_ w9 HK9.out (by simp))
    clear hk9
    go_wp2_with fail
    refine (HPC.out).mono ?_
    rintro e w10 ⟨v10, rfl, ho10, hk10⟩
    obtain ⟨A10, c10, hv10, _⟩ := id ho10
    have hv10 : v10 = .slice A10 1 c10 := hv10
    subst hv10
    have HKK10 := Lib.hid (HKK9.out.trans hk10 (fun _ _ h => h))
    clear ho10 hk10
    go_wp2_with fail
    go_ret
    exact ⟨rfl, HKK10.out⟩
  · have := hno 0 (by simp)
    have e : ([k].getD 0 k40).pc = 8 := HKF.out.1
    rw [e] at this
    simp at this
end Go.Proofs.YtlmnmncdoiealaaGreatDoor

/- Frame -/
/- The frame of every law: what reads before the call reads so behind it, where nothing below the heap's old size has turned; how words that come in are opened. No program in sight but its tables. -/
namespace Go.Proofs.YtlmnmncdoiealaaGreatDoor
open Go.ChangeShapes Go.WideShapes Go.ChangeAt Go.RowKit
set_option linter.unusedVariables false

theorem trodAll_stays {H : Type} {enc : TypeId × Value → H} {P : Program} (hl : laidOutB P = true) {W W' : World} (hb : Below W.heap.size W W') :
    ∀ (ts : List TypeId) (vs : List Value) (ds : List (DataW H)) (ps : List MemPlace), (∀ t ∈ ts, P.readableRec t = true ∧ t < P.types.size) → (∀ x ∈ ps, x.block < W.heap.size) →
      DataW.TrodAll enc P W 0 (fun _ => true) true ts vs ds ps → DataW.TrodAll enc P W' 0 (fun b => decide (b < W.heap.size)) true ts vs ds ps
  | [], vs, ds, ps, _, _, h => by
    obtain ⟨rfl, rfl, rfl⟩ := trodAll_nil h
    exact trodAll_mk0
  | t :: ts, vs, ds, ps, hts, hlt, h => by
    obtain ⟨v, vs', d, ds', p, q, rfl, rfl, rfl, h0, r0⟩ := trodAll_cons h
    obtain ⟨h1, h2⟩ := hts t (by simp)
    exact trodAll_cons_mk (Below.trod hl h1 h2 h0 hb (fun x hx => hlt x (by simp [hx])))
      (trodAll_stays hl hb ts vs' ds' q (fun u hu => hts u (by simp [hu])) (fun x hx => hlt x (by simp [hx])) r0)

/-- a law's end: true, and its arguments as they were -/
theorem law_post {H : Type} {enc : TypeId × Value → H} {P : Program} {f : Func} {s : ChangeSpec} {W W' : World} {args : Array Value} {ds gs : List (DataW H)} {before : List MemPlace} {tb : TypeId}
    (hl : laidOutB P = true) (hts : ∀ t ∈ f.params.toList, P.readableRec t = true ∧ t < P.types.size) (hres : f.resultTypes = #[tb]) (htb : P.underlying tb = some .bool) (hv : s.vars = [])
    (hW : DataW.Whole enc P f.params.toList s.vars false W args.toList ds gs before) (hs : s.fn H (ds ++ gs) = { results := [.lit (.bool true)], args := ds }) (hb : Below W.heap.size W W') :
    s.post enc P f false true false false W args (.bool true) W' := by
  have hW' := hW
  obtain ⟨p, q, hA, hV, rfl, hfz, hnd⟩ := hW
  have hlt : ∀ x ∈ p ++ q, x.block < W.heap.size := fun x hx => hW'.lt x hx
  refine ⟨ds, gs, p ++ q, [], p, [], hW', ?_, ?_, ?_, hb.frame _, fun h => by cases h⟩
  · rw [hs, hres]; exact trodAll_mk1 (shut_bool htb true)
  · rw [hs]; exact trodAll_stays hl hb _ _ _ _ hts (fun x hx => hlt x (by simp [hx])) hA
  · rw [hs, hv]; rfl

/-- what is written of a word: it lies in its bounds -/
theorem rng_u32 {a : Int} (h : (Lit.int .u32 a).wf = true) : 0 ≤ a ∧ a < 4294967296 := by
  simp [Lit.wf, IntKind.min, IntKind.max, IntKind.signed, IntKind.bits] at h; omega

/-- WORDS THAT CAME IN, to be read -/
theorem open_words {H : Type} {enc : TypeId × Value → H} {P : Program} {W : World} {base : Nat} {ts te : TypeId} {v : Value} {d : DataW H} {ps : List MemPlace} (ht : P.underlying ts = some (.slice te)) (he : P.underlying te = some (.int .u32)) (hc : P.cellsOf te = 1)
    (hval : Value.okWide P W .any base ts v) (h : DataW.Trod enc P W 0 (fun _ => true) true ts v d ps) (hlt : ∀ x ∈ ps, x.block < W.heap.size) :
    ∃ (A : Option Addr) (len cap : Nat) (ws : Nat → Int), v = .slice A len cap ∧ Reads W A len cap (fun i => .int .u32 (ws i)) ∧ cap ≤ maxLen ∧ ∀ i, i < len → 0 ≤ ws i ∧ ws i < 4294967296 := by
  obtain ⟨a0, len, cap, rfl⟩ := okWide_slice ht hval
  obtain ⟨fuel, hf⟩ := h
  rcases open_ints ht he hc hf with ⟨hcs, hx⟩ | ⟨a, len', cap', zs, hcs, _, hl, hm, hz, hx, hcell, hwz⟩
  · simp [Value.cells] at hcs
    obtain ⟨rfl, rfl, rfl⟩ := hcs
    exact ⟨none, 0, 0, fun _ => 0, rfl, ⟨Nat.le_refl _, .inl rfl⟩, Nat.zero_le _, fun i hi => by omega⟩
  · simp [Value.cells] at hcs
    obtain ⟨rfl, rfl, rfl⟩ := hcs
    simp only [if_true] at hz
    obtain ⟨b, off, spot⟩ := a
    have hws : ∀ i, i < len → 0 ≤ zs.getD i 0 ∧ zs.getD i 0 < 4294967296 := by
      intro i hi
      have hlt : i < zs.length := by omega
      have e : zs.getD i 0 = zs[i] := by simp [List.getD, hlt]
      have hm := hwz zs[i] (List.getElem_mem _)
      rw [e]
      simp [Lit.wf, IntKind.min, IntKind.max, IntKind.signed, IntKind.bits] at hm
      omega
    by_cases h0 : cap = 0
    · exact ⟨some ⟨b, off, spot⟩, len, cap, fun _ => 0, rfl, ⟨hl, .inl h0⟩, hm, fun i hi => by omega⟩
    · have hspot : spot = none := by simpa [Addr.add] using World.cell?_spot (hcell 0 (by omega))
      subst hspot
      refine ⟨some ⟨b, off, none⟩, len, cap, fun i => zs.getD i 0, rfl, ⟨hl, .inr ⟨b, off, rfl, ?_, fun i hi => ?_⟩⟩, hm, hws⟩
      · have := World.block_lt_of_cell? W _ (hcell 0 (by omega))
        simpa [Addr.add] using this
      · have := hcell i (by omega)
        simpa [Addr.add_lit] using this
end Go.Proofs.YtlmnmncdoiealaaGreatDoor

/- OpenOps -/
/- Records that came in, opened to cells; ops that came in. -/
namespace Go.Proofs.YtlmnmncdoiealaaGreatDoor
open Go.ChangeShapes Go.WideShapes Go.ChangeAt Go.RowKit Go.Deep
set_option linter.unusedVariables false

/-- a record's field, read from the one cell it has -/
theorem field_read {H : Type} {enc : TypeId × Value → H} {P : Program} {W : World} {te : TypeId} {fs : Array Field} {fuel base : Nat} {spare : Nat → Bool} {held : Bool} {cs : List Value} {x : DataW H × List MemPlace}
    (he : P.underlying te = some (.struct fs)) (hone : oneCellFields P fs = true) (hC : P.cellsOf te = fs.size) (h : DataW.trod enc P W base spare held fuel te cs = some x) (j : Nat) (f : Field) (hj : fs[j]? = some f) :
    ∃ v y n, cs[j]? = some v ∧ DataW.trod enc P W base spare held n f.type [v] = some y := by
  obtain ⟨xs, n, _, _, hlen, hxl, hg⟩ := DataW.trod_struct he h
  obtain ⟨ho, hk⟩ := hone_of hone j f hj
  have hjl : j < fs.size := (Array.getElem?_eq_some_iff.1 hj).1
  have hjc : j < cs.length := by omega
  have h1 := hg j f hj
  rw [ho, hk, List.drop_eq_getElem_cons hjc, List.getElem?_eq_getElem (by omega)] at h1
  exact ⟨cs[j], _, n, List.getElem?_eq_getElem hjc, h1⟩

theorem open_recs {H : Type} {enc : TypeId × Value → H} {P : Program} {W : World} {base : Nat} {ts te : TypeId} {fs : Array Field} {v : Value} {d : DataW H} {ps : List MemPlace} (ht : P.underlying ts = some (.slice te)) (he : P.underlying te = some (.struct fs))
    (hone : oneCellFields P fs = true) (hC : P.cellsOf te = fs.size) (h0 : 0 < fs.size) (hval : Value.okWide P W .any base ts v) (h : DataW.Trod enc P W 0 (fun _ => true) true ts v d ps) :
    ∃ (A : Option Addr) (len cap : Nat), v = .slice A len cap ∧ len ≤ cap ∧ cap ≤ maxLen ∧ (cap = 0 ∨ ∃ b o, A = some ⟨b, o, none⟩ ∧ b < W.heap.size ∧
      ∀ i, i < len → ∀ j f, fs[j]? = some f → ∃ v y n, W.cell? ⟨b, o + i * fs.size + j, none⟩ = some v ∧ DataW.trod enc P W 0 (fun _ => true) true n f.type [v] = some y) := by
  obtain ⟨a0, len, cap, rfl⟩ := okWide_slice ht hval
  obtain ⟨fuel, hf⟩ := h
  rcases open_slice ht hf with ⟨hcs, _⟩ | ⟨a, len', cap', m, n, D, Pl, hcs, hb, hl, hm, hmm, hx, hi⟩
  · simp [Value.cells] at hcs
    obtain ⟨rfl, rfl, rfl⟩ := hcs
    exact ⟨none, 0, 0, rfl, Nat.le_refl _, Nat.zero_le _, .inl rfl⟩
  · simp [Value.cells] at hcs
    obtain ⟨rfl, rfl, rfl⟩ := hcs
    simp only [if_true] at hmm
    subst hmm
    refine ⟨some a, len, m, rfl, hl, hm, ?_⟩
    by_cases hc0 : m = 0
    · exact .inl hc0
    · right
      obtain ⟨b, off, spot⟩ := a
      have hfl : ∀ i, i < m → ∀ j f, fs[j]? = some f → ∃ v y n, W.cell? (((⟨b, off, spot⟩ : Addr).add (i * fs.size)).add j) = some v ∧ DataW.trod enc P W 0 (fun _ => true) true n f.type [v] = some y := by
        intro i him j f hj
        obtain ⟨cs', hc, ht'⟩ := hi i him
        rw [hC] at hc
        obtain ⟨_, hcl, hat⟩ := World.cells?_some hc
        obtain ⟨v, y, n', hv, hy⟩ := field_read he hone hC ht' j f hj
        exact ⟨v, y, n', (hat j (Array.getElem?_eq_some_iff.1 hj).1).trans hv, hy⟩
      obtain ⟨f0, hf0⟩ : ∃ f, fs[0]? = some f := ⟨fs[0], Array.getElem?_eq_getElem h0⟩
      obtain ⟨v0, _, _, hc00, _⟩ := hfl 0 (by omega) 0 f0 hf0
      have hspot : spot = none := by simpa [Addr.add] using World.cell?_spot hc00
      subst hspot
      refine ⟨b, off, rfl, by simpa [Addr.add] using World.block_lt_of_cell? W _ hc00, fun i hil j f hj => ?_⟩
      obtain ⟨v, y, n', h1, h2⟩ := hfl i (by omega) j f hj
      rw [Addr.add_lit, Addr.add_lit] at h1
      exact ⟨v, y, n', h1, h2⟩

/-- the types of a struct's fields, each of one cell -/
def structTypes (P : Program) (t : TypeId) : Option (List TypeId) :=
  match P.underlying t with
  | some (.struct fs) => if oneCellFields P fs = true ∧ P.cellsOf t = fs.size then some (fs.toList.map (·.type)) else none
  | _ => none
theorem structTypes_some {P : Program} {t : TypeId} {ts : List TypeId} (h : structTypes P t = some ts) : ∃ fs : Array Field, P.underlying t = some (.struct fs) ∧ oneCellFields P fs = true ∧ P.cellsOf t = fs.size ∧ fs.size = ts.length ∧ ∀ (j : Nat) (ty : TypeId), ts[j]? = some ty → ∃ f : Field, fs[j]? = some f ∧ f.type = ty := by
  unfold structTypes at h
  split at h
  · rename_i fs hu
    split at h
    · rename_i hc
      injection h with h
      subst h
      refine ⟨fs, hu, hc.1, hc.2, by rw [List.length_map, Array.length_toList], fun j ty hj => ?_⟩
      rw [List.getElem?_map, Array.getElem?_toList] at hj
      obtain ⟨f, h1, h2⟩ := Option.map_eq_some_iff.1 hj
      exact ⟨f, h1, h2⟩
    · cases h
  · cases h
theorem open_recs' {H : Type} {enc : TypeId × Value → H} {P : Program} {W : World} {base : Nat} {ts te : TypeId} {tys : List TypeId} {v : Value} {d : DataW H} {ps : List MemPlace} (ht : P.underlying ts = some (.slice te)) (he : structTypes P te = some tys)
    (h0 : 0 < tys.length) (hval : Value.okWide P W .any base ts v) (h : DataW.Trod enc P W 0 (fun _ => true) true ts v d ps) :
    ∃ (A : Option Addr) (len cap : Nat), v = .slice A len cap ∧ len ≤ cap ∧ cap ≤ maxLen ∧ (cap = 0 ∨ ∃ b o, A = some ⟨b, o, none⟩ ∧ b < W.heap.size ∧
      ∀ i, i < len → ∀ j ty, tys[j]? = some ty → ∃ v y n, W.cell? ⟨b, o + i * tys.length + j, none⟩ = some v ∧ DataW.trod enc P W 0 (fun _ => true) true n ty [v] = some y) := by
  obtain ⟨fs, h1, h2, h3, h4, h5⟩ := structTypes_some he
  obtain ⟨A, len, cap, hv, hl, hm, hc⟩ := open_recs ht h1 h2 h3 (by omega) hval h
  refine ⟨A, len, cap, hv, hl, hm, ?_⟩
  rcases hc with hc | ⟨b, o, hA, hb, hc⟩
  · exact .inl hc
  · refine .inr ⟨b, o, hA, hb, fun i hi j ty hj => ?_⟩
    obtain ⟨f, hf, rfl⟩ := h5 j ty hj
    have := hc i hi j f hf
    rwa [h4] at this

theorem types_op : structTypes Tryz.prog 64 = some [9, 3, 3, 3, 34, 3] := by kernel_rfl

/-- an int field, a bool field -/
def gInt (w : World) (b o : Nat) : Int := match w.cell? ⟨b, o, none⟩ with
  | some (.int _ n) => n
  | _ => 0
def gBool (w : World) (b o : Nat) : Bool := match w.cell? ⟨b, o, none⟩ with
  | some (.bool n) => n
  | _ => false
theorem fld_int {H : Type} {enc : TypeId × Value → H} {P : Program} {W : World} {b o n : Nat} {ty : TypeId} {k : IntKind} {v : Value} {y : DataW H × List MemPlace} (ht : P.underlying ty = some (.int k)) (hc : W.cell? ⟨b, o, none⟩ = some v)
    (h : DataW.trod enc P W 0 (fun _ => true) true n ty [v] = some y) : W.cell? ⟨b, o, none⟩ = some (.int k (gInt W b o)) ∧ (Lit.int k (gInt W b o)).wf = true := by
  obtain ⟨z, hz, _, hw⟩ := DataW.trod_int ht h
  injection hz with hz
  subst hz
  have : gInt W b o = z := by rw [gInt, hc]
  rw [this]
  exact ⟨hc, hw⟩
theorem fld_bool {H : Type} {enc : TypeId × Value → H} {P : Program} {W : World} {b o n : Nat} {ty : TypeId} {v : Value} {y : DataW H × List MemPlace} (ht : P.underlying ty = some .bool) (hc : W.cell? ⟨b, o, none⟩ = some v)
    (h : DataW.trod enc P W 0 (fun _ => true) true n ty [v] = some y) : W.cell? ⟨b, o, none⟩ = some (.bool (gBool W b o)) := by
  obtain ⟨z, hz, _⟩ := DataW.trod_bool ht h
  injection hz with hz
  subst hz
  rw [gBool, hc]

def gStr (w : World) (b o : Nat) : ByteArray := match w.cell? ⟨b, o, none⟩ with
  | some (.string n) => n
  | _ => ByteArray.empty
theorem fld_str {H : Type} {enc : TypeId × Value → H} {P : Program} {W : World} {b o n : Nat} {ty : TypeId} {v : Value} {y : DataW H × List MemPlace} (ht : P.underlying ty = some .string) (hc : W.cell? ⟨b, o, none⟩ = some v)
    (h : DataW.trod enc P W 0 (fun _ => true) true n ty [v] = some y) : W.cell? ⟨b, o, none⟩ = some (.string (gStr W b o)) := by
  obtain ⟨z, hz, _⟩ := DataW.trod_string ht h
  injection hz with hz
  subst hz
  rw [gStr, hc]
theorem rng_int {a : Int} (h : (Lit.int .i64 a).wf = true) : i64R a := by
  have h1 := h
  simp [Lit.wf] at h1
  exact h1
/-- an op that lies there -/
def gOp (w : World) (b o : Nat) : Ir.Op := ⟨gStr w b o, gInt w b (o + 1), gInt w b (o + 2), gInt w b (o + 3), gInt w b (o + 4), gInt w b (o + 5)⟩
def gOps (w : World) (b o n : Nat) : List Ir.Op := (List.range n).map fun i => gOp w b (o + i * 6)
theorem gOps_get (w : World) (b o n i : Nat) (h : i < n) : (gOps w b o n).getD i Ir.nop = gOp w b (o + i * 6) := by
  unfold gOps
  rw [List.getD_eq_getElem?_getD, List.getElem?_map, List.getElem?_range h]
  rfl
theorem gOps_len (w : World) (b o n : Nat) : (gOps w b o n).length = n := by simp [gOps]

set_option maxRecDepth 100000 in
/-- what a slice's cells of type Op give -/
theorem ops_of_cells {H : Type} {enc : TypeId × Value → H} {W : World} {b o len cap : Nat} (hl : len ≤ cap) (hb : b < W.heap.size)
    (hc : ∀ i, i < len → ∀ j ty, [9, 3, 3, 3, 34, 3][j]? = some ty → ∃ v y n, W.cell? ⟨b, o + i * 6 + j, none⟩ = some v ∧ DataW.trod enc Tryz.prog W 0 (fun _ => true) true n ty [v] = some y) :
    OpsAt W (some ⟨b, o, none⟩) len cap (gOps W b o len) ∧ ∀ x ∈ gOps W b o len, OpOk x := by
  have f0 : ∀ i, i < len → W.cell? ⟨b, o + i * 6 + 0, none⟩ = some (.string (gStr W b (o + i * 6 + 0))) := fun i hi => by
    obtain ⟨v, y, n, h1, h2⟩ := hc i hi 0 _ rfl
    exact fld_str Tryz.underlying9 h1 h2
  have f1 : ∀ i, i < len → W.cell? ⟨b, o + i * 6 + 1, none⟩ = some (.int .i64 (gInt W b (o + i * 6 + 1))) ∧ _ := fun i hi => by
    obtain ⟨v, y, n, h1, h2⟩ := hc i hi 1 _ rfl
    exact fld_int Tryz.underlying3 h1 h2
  have f2 : ∀ i, i < len → W.cell? ⟨b, o + i * 6 + 2, none⟩ = some (.int .i64 (gInt W b (o + i * 6 + 2))) ∧ _ := fun i hi => by
    obtain ⟨v, y, n, h1, h2⟩ := hc i hi 2 _ rfl
    exact fld_int Tryz.underlying3 h1 h2
  have f3 : ∀ i, i < len → W.cell? ⟨b, o + i * 6 + 3, none⟩ = some (.int .i64 (gInt W b (o + i * 6 + 3))) ∧ _ := fun i hi => by
    obtain ⟨v, y, n, h1, h2⟩ := hc i hi 3 _ rfl
    exact fld_int Tryz.underlying3 h1 h2
  have f4 : ∀ i, i < len → W.cell? ⟨b, o + i * 6 + 4, none⟩ = some (.int .u32 (gInt W b (o + i * 6 + 4))) ∧ _ := fun i hi => by
    obtain ⟨v, y, n, h1, h2⟩ := hc i hi 4 _ rfl
    exact fld_int Tryz.underlying34 h1 h2
  have f5 : ∀ i, i < len → W.cell? ⟨b, o + i * 6 + 5, none⟩ = some (.int .i64 (gInt W b (o + i * 6 + 5))) ∧ _ := fun i hi => by
    obtain ⟨v, y, n, h1, h2⟩ := hc i hi 5 _ rfl
    exact fld_int Tryz.underlying3 h1 h2
  refine ⟨⟨gOps_len _ _ _ _, hl, .inr ⟨b, o, rfl, hb, fun i hi => ?_⟩⟩, fun x hx => ?_⟩
  · rw [gOps_get W b o len i hi]
    exact ⟨f0 i hi, (f1 i hi).1, (f2 i hi).1, (f3 i hi).1, (f4 i hi).1, (f5 i hi).1⟩
  · unfold gOps at hx
    obtain ⟨i, hi, rfl⟩ := List.mem_map.1 hx
    have hi := List.mem_range.1 hi
    have h4 := rng_u32 (f4 i hi).2
    exact ⟨rng_int (f1 i hi).2, rng_int (f2 i hi).2, rng_int (f3 i hi).2, ⟨h4.1, Int.le_of_lt_add_one h4.2⟩, rng_int (f5 i hi).2⟩
set_option maxRecDepth 100000 in
/-- OPS THAT CAME IN, to be read -/
theorem open_ops {H : Type} {enc : TypeId × Value → H} {W : World} {base : Nat} {v : Value} {d : DataW H} {ps : List MemPlace}
    (hval : Value.okWide Tryz.prog W .any base 40 v) (h : DataW.Trod enc Tryz.prog W 0 (fun _ => true) true 40 v d ps) :
    ∃ (A : Option Addr) (len cap : Nat) (l : List Ir.Op), v = .slice A len cap ∧ OpsAt W A len cap l ∧ cap ≤ 9223372036854775807 ∧ ∀ x ∈ l, OpOk x := by
  obtain ⟨A, len, cap, rfl, hl, hm, hc⟩ := open_recs' Tryz.underlying40 types_op (Nat.succ_pos _) hval h
  have hcap : cap ≤ 9223372036854775807 := by unfold maxLen at hm; omega
  rcases hc with hc | ⟨b, o, rfl, hb, hc⟩
  · refine ⟨A, len, cap, [], rfl, ⟨?_, hl, .inl hc⟩, hcap, fun x hx => by cases hx⟩
    simp
    omega
  · have := ops_of_cells (enc := enc) hl hb hc
    exact ⟨_, len, cap, _, rfl, this.1, hcap, this.2⟩
end Go.Proofs.YtlmnmncdoiealaaGreatDoor
