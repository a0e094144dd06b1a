import Derived.Test.YtlmnmncdoiealaaDoorMem
import Derived.Test.YtlmnmncdoiealaaDoorProg
import Derived.BigQuiet
import Derived.LoopTactic
import Derived.Lib.Hide
import Derived.Test.YtlmnmncdoiealaaDoorKdz22
import Derived.Test.YtlmnmncdoiealaaDoorKdz23
import Derived.ProofKit
import Derived.OpenShut

/- Same -/
/- The walk of the reference's SameInts over rows that are the same. -/
namespace Go.Proofs.YtlmnmncdoiealaaDoor
open Go.RowKit Go.Deep
set_option linter.unusedVariables false

set_option maxRecDepth 100000 in
set_option maxHeartbeats 1000000 in
theorem sameRows_any (A B : Option Addr) (n ca cb : Nat) (f : Nat → Int) (w : World) (h1 : Reads w A n ca (fun i => .int .i64 (f i))) (h2 : Reads w B n cb (fun i => .int .i64 (f i))) (hca : ca ≤ 9223372036854775807) (hcb : cb ≤ 9223372036854775807) :
    Calls Tryd.prog 20 #[.slice A n ca, .slice B n cb] w fun e w' => e = .returned (.bool true) ∧ Keeps (fun _ => False) w w' := by
  have b1 := h1.1
  have b2 := h2.1
  have H1 := Lib.hid h1
  have H2 := Lib.hid h2
  clear h1 h2
  go_enter Tryd.func20, Tryd.ntmps20
  go_wp2_with fail
  go_loopw [5] (fun s5 wr => ∃ i : Nat, i ≤ n ∧ s5 = .int .i64 i ∧ Keeps (fun _ => False) w wr) (fun s5 _ => n - (intOf s5).toNat)
  case atStart => exact ⟨0, by omega, rfl, Keeps.refl _ w⟩
  case round =>
    obtain ⟨i, hi, rfl, hK⟩ := hrel
    by_cases hlt : i < n
    · obtain ⟨ga, oa, rfl, p1⟩ : ∃ g o, A = some ⟨g, o, none⟩ ∧ wr.cell? ⟨g, o + i, none⟩ = some (.int .i64 (f i)) := by
        obtain ⟨_, h3 | ⟨g, o, h3, _, h4⟩⟩ := H1.out.keep hK (fun _ _ _ h => h)
        · omega
        · exact ⟨g, o, h3, h4 i hlt⟩
      obtain ⟨gb, ob, rfl, p2⟩ : ∃ g o, B = some ⟨g, o, none⟩ ∧ wr.cell? ⟨g, o + i, none⟩ = some (.int .i64 (f i)) := by
        obtain ⟨_, h3 | ⟨g, o, h3, _, h4⟩⟩ := H2.out.keep hK (fun _ _ _ h => h)
        · omega
        · exact ⟨g, o, h3, h4 i hlt⟩
      go_wp2_with fail
      go_quiet (fail)
      go_wp2_with fail
      go_roundw
      case rel => exact ⟨i + 1, by omega, by go_num, hK.drewN _⟩
      case measure => simp [intOf]; omega
    · obtain rfl : i = n := by omega
      go_wp2_with fail
      go_ret
      exact ⟨rfl, hK⟩
end Go.Proofs.YtlmnmncdoiealaaDoor

/- Kept -/
/- The walk of the law's kept: a closed fact. -/
namespace Go.Proofs.YtlmnmncdoiealaaDoor
open Go.RowKit Go.Deep
set_option linter.unusedVariables false
set_option linter.unusedSimpArgs false

def keptOp (imm : Int) : Ir.Op := ⟨⟨#[111, 117, 116]⟩, 0, 0, 0, imm, 0⟩
theorem kept_fault8 : (Ir.planFault 1 [[keptOp 8]]).1 = 0 := by decide +kernel
theorem kept_fault0 : (Ir.planFault 1 [[keptOp 0]]).1 = 0 := by decide +kernel
theorem putL_one (mx : Int) (h : 1 ≤ mx) (k : K4) : putL mx [] k = [k] := by
  unfold putL npK
  simp
  omega
theorem KT.below {B : Nat} {w0 w w' : World} (h : Keeps (KT B w) w w') (k : Keeps (fun _ => False) w0 w) (hB : w0.heap.size ≤ B) : Keeps (fun _ => False) w0 w' := k.trans h (fun b hb h => by
  have := h.1
  omega)
set_option maxHeartbeats 8000000 in
set_option maxRecDepth 100000 in
theorem kept_any (w : World) (ea : Nat → Addr) (E : ErrsR w ea) :
    Calls Tryd.prog 5 #[] w fun e w' => e = .returned (.bool true) ∧ Keeps (fun _ => False) w w' := by
  have HE := Lib.hid E
  clear E
  have HNEW := Lib.hid (keepNew_any 1 (fun _ => []) (fun _ => []) w (by omega) (by omega))
  go_enter Tryd.func5, Tryd.ntmps5
  go_upto_region 1 with fail
  go_wp2_with fail
  refine (HNEW.out).mono ?_
  rintro e w1 ⟨kb, rfl, hK, hk⟩
  have HK1 := Lib.hid hK
  have HKK1 := Lib.hid hk
  clear hK hk
  obtain ⟨B, hB⟩ : ∃ B, w.heap.size = B := ⟨_, rfl⟩
  rw [hB] at HK1
  have HBE := Lib.hid hB
  clear hB
  go_upto_region 2 with fail
  have HR := Lib.hid (show RowsOwn ((w1.alloc (.cells #[.string ⟨#[111, 117, 116]⟩, .int .i64 0, .int .i64 0, .int .i64 0, .int .u32 8, .int .i64 0] 35)).alloc (.cells #[.slice (some ⟨w1.heap.size, 0, none⟩) 1 1] 36)) 0 (.slice (some ⟨w1.heap.size + 1, 0, none⟩) 1 1) [[keptOp 8]] from RowsOwn.one w1 (keptOp 8))
  have HA := Lib.hid (show Keeps (fun _ => False) w1 ((w1.alloc (.cells #[.string ⟨#[111, 117, 116]⟩, .int .i64 0, .int .i64 0, .int .i64 0, .int .u32 8, .int .i64 0] 35)).alloc (.cells #[.slice (some ⟨w1.heap.size, 0, none⟩) 1 1] 36)) from ((Keeps.refl (fun _ => False) w1).alloc _).alloc _)
  have HSZ := Lib.hid (show w1.heap.size + 1 + 1 = ((w1.alloc (.cells #[.string ⟨#[111, 117, 116]⟩, .int .i64 0, .int .i64 0, .int .i64 0, .int .u32 8, .int .i64 0] 35)).alloc (.cells #[.slice (some ⟨w1.heap.size, 0, none⟩) 1 1] 36)).heap.size from by rw [nblk_alloc, nblk_alloc])
  go_upto_region 3 with fail
  rw [HSZ.out]
  clear HSZ
  generalize (w1.alloc _).alloc _ = w2 at *
  generalize w1.heap.size + 1 = g at *
  have HPB := Lib.hid (PlanBox.new w2 8 1 (some ⟨g, 0, none⟩) 1 1)
  have HA3 := Lib.hid (HA.out.trans ((Keeps.refl (fun _ => False) w2).alloc (.cells #[.int .u32 8, .int .i64 1, .slice (some ⟨g, 0, none⟩) 1 1] 38)) (fun _ _ h => h))
  have HR3 := Lib.hid (HR.out.quiet ((Keeps.refl (fun _ => False) w2).alloc (.cells #[.int .u32 8, .int .i64 1, .slice (some ⟨g, 0, none⟩) 1 1] 38)))
  generalize w2.alloc _ = w3 at *
  generalize w2.heap.size = pb at *
  obtain ⟨d0, d1, d2, _⟩ := HPB.out.cells
  have HI := Lib.hid (show IOwn (w3.alloc (.cells #[.int .i64 3] 3)) 0 [3] (.slice (some ⟨w3.heap.size, 0, none⟩) 1 1) from IOwn.lit w3 [3] (by decide))
  have HA4 := Lib.hid (HA3.out.trans ((Keeps.refl (fun _ => False) w3).alloc (.cells #[.int .i64 3] 3)) (fun _ _ h => h))
  have HR4 := Lib.hid (HR3.out.quiet ((Keeps.refl (fun _ => False) w3).alloc (.cells #[.int .i64 3] 3)))
  have HPUT := Lib.hid (fun wx (k : Keeps (fun _ => False) w1 wx) V R => keepPut_any B kb 1 [] (fun _ => []) (fun _ => []) 8 1 (some ⟨g, 0, none⟩) 1 1 [[keptOp 8]] (some ⟨w3.heap.size, 0, none⟩) 1 1 [3] wx ea (HE.out.quiet (HKK1.out.trans k (fun _ _ h => h))) (HK1.out.quiet k) (by decide) V kept_fault8 R (by decide))
  go_wp2_with fail
  refine (HPUT.out _ HA4.out HR4.out HI.out).mono ?_
  rintro e w5 ⟨rfl, k, pg, rw_, hk1, hk2, hk3, hk4, _, hK5, hk5⟩
  have HK5 := Lib.hid (show KeepAt w5 B kb 1 [k] pg rw_ from by
    have := hK5
    rwa [putL_one 1 (by omega)] at this)
  have HKK5 := Lib.hid (KT.below hk5 (HKK1.out.trans HA4.out (fun _ _ h => h)) (by have := HBE.out; omega))
  have HKF := Lib.hid (And.intro hk1 (And.intro hk3 hk4))
  have HGET := Lib.hid (keepGet_any B kb 1 [k] pg rw_ 8 w5 HK5.out (by simp))
  clear hk1 hk2 hk3 hk4 hK5 hk5 d0 d1 d2
  go_wp2_with fail
  refine (HGET.out).mono ?_
  rintro e w6 (⟨i, gg, gn, hi, h1, h2, rfl, hro, hK6, hk6⟩ | ⟨hno, _⟩)
  · have hi0 : i = 0 := by
      have : i < 1 := hi
      omega
    subst hi0
    have HK6 := Lib.hid (show KeepAt w6 B kb 1 [k] pg rw_ from hK6)
    have HKK6 := Lib.hid (KT.below hk6 HKK5.out (by have := HBE.out; omega))
    have hpc : ([k].getD 0 k40).pc = 8 := HKF.out.1
    rw [hpc]
    clear hpc h1 h2 hro hK6 hk6 hi
    obtain ⟨many, hmany⟩ : ∃ m, ([k].getD 0 k40).many = m := ⟨_, rfl⟩
    rw [hmany]
    clear hmany
    have HPB6 := Lib.hid (PlanBox.new w6 8 many (some ⟨gg, 0, none⟩) gn gn)
    have HA6 := Lib.hid ((Keeps.refl (fun _ => False) w6).alloc (.cells #[.int .u32 8, .int .i64 many, .slice (some ⟨gg, 0, none⟩) gn gn] 38))
    go_upto_region 6 with fail
    have HK7 := Lib.hid (HK6.out.quiet HA6.out)
    have HKK7 := Lib.hid (HKK6.out.trans HA6.out (fun _ _ h => h))
    generalize w6.alloc _ = w7 at *
    generalize w6.heap.size = xb at *
    obtain ⟨d0, _⟩ := HPB6.out.cells
    have HPG := Lib.hid (keepPages_any B kb 1 [k] pg rw_ w7 HK7.out (by simp))
    have HUQ := Lib.hid (show uniqI ([k].flatMap pg) = [3] from by
      have h := HKF.out.2.1
      simp only [List.flatMap_cons, List.flatMap_nil, List.append_nil]
      rw [h]
      decide +kernel)
    go_wp2_with fail
    refine (HPG.out).mono ?_
    rintro e w8 ⟨v8, rfl, ho8, hk8⟩
    rw [HUQ.out] at ho8
    have HO8 := Lib.hid ho8
    obtain ⟨A8, c8, hv8, _⟩ := id ho8
    have hv8 : v8 = .slice A8 1 c8 := hv8
    subst hv8
    have HKK8 := Lib.hid (HKK7.out.trans hk8 (fun _ _ h => h))
    have HK8 := Lib.hid (HK7.out.quiet hk8)
    have HA8 := Lib.hid ((Keeps.refl (fun _ => False) w8).alloc (.cells #[.int .i64 3] 3))
    have HI8 := Lib.hid (show IOwn (w8.alloc (.cells #[.int .i64 3] 3)) 0 [3] (.slice (some ⟨w8.heap.size, 0, none⟩) 1 1) from IOwn.lit w8 [3] (by decide))
    have HO9 := Lib.hid (HO8.out.keep HA8.out (fun _ _ _ _ h => h))
    have HSM := Lib.hid (sameRows_any A8 (some ⟨w8.heap.size, 0, none⟩) 1 c8 1 (fun i => [3].getD i 0) (w8.alloc (.cells #[.int .i64 3] 3)) HO9.out.reads.2.2 HI8.out.reads.2.2 HO9.out.reads.2.1 (by decide))
    clear ho8 hk8 d0
    go_wp2_with fail
    refine (HSM.out).mono ?_
    rintro e w9 ⟨rfl, hk9⟩
    have HKK9 := Lib.hid ((HKK8.out.trans HA8.out (fun _ _ h => h)).trans hk9 (fun _ _ h => h))
    have HK9 := Lib.hid ((HK8.out.quiet HA8.out).quiet hk9)
    have HPC := Lib.hid (keepPCs_any B kb 1 [k] pg rw_ w9 HK9.out (by simp))
    clear hk9
    go_wp2_with fail
    refine (HPC.out).mono ?_
    rintro e w10 ⟨v10, rfl, ho10, hk10⟩
    obtain ⟨A10, c10, hv10, _⟩ := id ho10
    have hv10 : v10 = .slice A10 1 c10 := hv10
    subst hv10
    have HKK10 := Lib.hid (HKK9.out.trans hk10 (fun _ _ h => h))
    clear ho10 hk10
    go_wp2_with fail
    go_ret
    exact ⟨rfl, HKK10.out⟩
  · have := hno 0 (by simp)
    have e : ([k].getD 0 k40).pc = 8 := HKF.out.1
    rw [e] at this
    simp at this
end Go.Proofs.YtlmnmncdoiealaaDoor

/- Frame -/
/- The frame of every law: what reads before the call reads so behind it, where nothing below the heap's old size has turned; how words that come in are opened. No program in sight but its tables. -/
namespace Go.Proofs.YtlmnmncdoiealaaDoor
open Go.ChangeShapes Go.WideShapes Go.ChangeAt Go.RowKit
set_option linter.unusedVariables false

theorem trodAll_stays {H : Type} {enc : TypeId × Value → H} {P : Program} (hl : laidOutB P = true) {W W' : World} (hb : Below W.heap.size W W') :
    ∀ (ts : List TypeId) (vs : List Value) (ds : List (DataW H)) (ps : List MemPlace), (∀ t ∈ ts, P.readableRec t = true ∧ t < P.types.size) → (∀ x ∈ ps, x.block < W.heap.size) →
      DataW.TrodAll enc P W 0 (fun _ => true) true ts vs ds ps → DataW.TrodAll enc P W' 0 (fun b => decide (b < W.heap.size)) true ts vs ds ps
  | [], vs, ds, ps, _, _, h => by
    obtain ⟨rfl, rfl, rfl⟩ := trodAll_nil h
    exact trodAll_mk0
  | t :: ts, vs, ds, ps, hts, hlt, h => by
    obtain ⟨v, vs', d, ds', p, q, rfl, rfl, rfl, h0, r0⟩ := trodAll_cons h
    obtain ⟨h1, h2⟩ := hts t (by simp)
    exact trodAll_cons_mk (Below.trod hl h1 h2 h0 hb (fun x hx => hlt x (by simp [hx])))
      (trodAll_stays hl hb ts vs' ds' q (fun u hu => hts u (by simp [hu])) (fun x hx => hlt x (by simp [hx])) r0)

/-- a law's end: true, and its arguments as they were -/
theorem law_post {H : Type} {enc : TypeId × Value → H} {P : Program} {f : Func} {s : ChangeSpec} {W W' : World} {args : Array Value} {ds gs : List (DataW H)} {before : List MemPlace} {tb : TypeId}
    (hl : laidOutB P = true) (hts : ∀ t ∈ f.params.toList, P.readableRec t = true ∧ t < P.types.size) (hres : f.resultTypes = #[tb]) (htb : P.underlying tb = some .bool) (hv : s.vars = [])
    (hW : DataW.Whole enc P f.params.toList s.vars false W args.toList ds gs before) (hs : s.fn H (ds ++ gs) = { results := [.lit (.bool true)], args := ds }) (hb : Below W.heap.size W W') :
    s.post enc P f false true false false W args (.bool true) W' := by
  have hW' := hW
  obtain ⟨p, q, hA, hV, rfl, hfz, hnd⟩ := hW
  have hlt : ∀ x ∈ p ++ q, x.block < W.heap.size := fun x hx => hW'.lt x hx
  refine ⟨ds, gs, p ++ q, [], p, [], hW', ?_, ?_, ?_, hb.frame _, fun h => by cases h⟩
  · rw [hs, hres]; exact trodAll_mk1 (shut_bool htb true)
  · rw [hs]; exact trodAll_stays hl hb _ _ _ _ hts (fun x hx => hlt x (by simp [hx])) hA
  · rw [hs, hv]; rfl

/-- what is written of a word: it lies in its bounds -/
theorem rng_u32 {a : Int} (h : (Lit.int .u32 a).wf = true) : 0 ≤ a ∧ a < 4294967296 := by
  simp [Lit.wf, IntKind.min, IntKind.max, IntKind.signed, IntKind.bits] at h; omega

/-- WORDS THAT CAME IN, to be read -/
theorem open_words {H : Type} {enc : TypeId × Value → H} {P : Program} {W : World} {base : Nat} {ts te : TypeId} {v : Value} {d : DataW H} {ps : List MemPlace} (ht : P.underlying ts = some (.slice te)) (he : P.underlying te = some (.int .u32)) (hc : P.cellsOf te = 1)
    (hval : Value.okWide P W .any base ts v) (h : DataW.Trod enc P W 0 (fun _ => true) true ts v d ps) (hlt : ∀ x ∈ ps, x.block < W.heap.size) :
    ∃ (A : Option Addr) (len cap : Nat) (ws : Nat → Int), v = .slice A len cap ∧ Reads W A len cap (fun i => .int .u32 (ws i)) ∧ cap ≤ maxLen ∧ ∀ i, i < len → 0 ≤ ws i ∧ ws i < 4294967296 := by
  obtain ⟨a0, len, cap, rfl⟩ := okWide_slice ht hval
  obtain ⟨fuel, hf⟩ := h
  rcases open_ints ht he hc hf with ⟨hcs, hx⟩ | ⟨a, len', cap', zs, hcs, _, hl, hm, hz, hx, hcell, hwz⟩
  · simp [Value.cells] at hcs
    obtain ⟨rfl, rfl, rfl⟩ := hcs
    exact ⟨none, 0, 0, fun _ => 0, rfl, ⟨Nat.le_refl _, .inl rfl⟩, Nat.zero_le _, fun i hi => by omega⟩
  · simp [Value.cells] at hcs
    obtain ⟨rfl, rfl, rfl⟩ := hcs
    simp only [if_true] at hz
    obtain ⟨b, off, spot⟩ := a
    have hws : ∀ i, i < len → 0 ≤ zs.getD i 0 ∧ zs.getD i 0 < 4294967296 := by
      intro i hi
      have hlt : i < zs.length := by omega
      have e : zs.getD i 0 = zs[i] := by simp [List.getD, hlt]
      have hm := hwz zs[i] (List.getElem_mem _)
      rw [e]
      simp [Lit.wf, IntKind.min, IntKind.max, IntKind.signed, IntKind.bits] at hm
      omega
    by_cases h0 : cap = 0
    · exact ⟨some ⟨b, off, spot⟩, len, cap, fun _ => 0, rfl, ⟨hl, .inl h0⟩, hm, fun i hi => by omega⟩
    · have hspot : spot = none := by simpa [Addr.add] using World.cell?_spot (hcell 0 (by omega))
      subst hspot
      refine ⟨some ⟨b, off, none⟩, len, cap, fun i => zs.getD i 0, rfl, ⟨hl, .inr ⟨b, off, rfl, ?_, fun i hi => ?_⟩⟩, hm, hws⟩
      · have := World.block_lt_of_cell? W _ (hcell 0 (by omega))
        simpa [Addr.add] using this
      · have := hcell i (by omega)
        simpa [Addr.add_lit] using this
end Go.Proofs.YtlmnmncdoiealaaDoor
