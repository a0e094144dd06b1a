import Derived.Test.YtknhfobcejpmeaaDoorPcz23
import Derived.Test.YtknhfobcejpmeaaDoorPcz09
import Derived.Test.YtknhfobcejpmeaaDoorPcz26
import Derived.Test.YtknhfobcejpmeaaDoorMem
import Derived.ProofKit
import Derived.OpenShut
import Derived.Test.YtknhfobcejpmeaaDoorPcz03
import Derived.Test.YtknhfobcejpmeaaDoorPcz02
import Derived.Deep.Slices
import Derived.Deep.Fields

/- PlanChecks -/
/- The walk of the law PlanChecks. -/
namespace Go.Proofs.YtknhfobcejpmeaaDoor
open Go.RowKit Go.Deep
set_option linter.unusedVariables false
set_option linter.unusedSimpArgs false

theorem ErrsAll.toR {w : World} {ea : Nat → Addr} (E : ErrsAll w ea) : ErrsR w ea := ⟨E.toC, E.cell 7 (by omega) (by omega)⟩
set_option maxHeartbeats 8000000 in
set_option maxRecDepth 100000 in
theorem planChecks_any (pc many : Int) (A : Option Addr) (n cap : Nat) (rows : List (List Ir.Op)) (w : World) (ea : Nat → Addr) (E : ErrsAll w ea) (V : RowsAt w A n cap rows) (hc : cap ≤ 9223372036854775807) :
    Calls Tryd.prog 3 #[.int .u32 pc, .int .i64 many, .slice A n cap] w fun e w' => e = .returned (.bool true) ∧ Keeps (fun _ => False) w w' := by
  have HE := Lib.hid E
  have HV := Lib.hid V
  have HL := Lib.hid V.len
  have hnc := V.le
  clear E V
  go_enter Tryd.func3, Tryd.ntmps3
  go_wp2_with fail
  refine (planned_any w ea HE.out.toC).mono ?_
  rintro e w1 ⟨rfl, hk1⟩
  have HK1 := Lib.hid hk1
  clear hk1
  by_cases hn : 20 < n ∧ n ≠ 201
  · have t1 : decide ((20 : Int) < (n : Int)) = true := decide_eq_true (by omega)
    have t2 : ((n : Int) != 201) = true := by simp; omega
    clear hn
    go_wp2_with fail
    go_ret
    exact ⟨rfl, HK1.out⟩
  · have hn201 : n ≤ 201 := by omega
    have HTT : Hid ((decide ((20 : Int) < (n : Int)) = false) ∨ (decide ((20 : Int) < (n : Int)) = true ∧ ((n : Int) != 201) = false)) := Lib.hid (by
      by_cases h : 20 < n
      · refine .inr ⟨decide_eq_true (by omega), ?_⟩
        have : n = 201 := by omega
        rw [this]
        decide
      · exact .inl (decide_eq_false (by omega)))
    clear hn
    go_upto_region 2 with fail
    go_cut [24] from 13 to 24 (fun s24 wx => s24 = .bool false ∧ wx = w1)
    case first =>
      rcases HTT.out with t1 | ⟨t1, t2⟩
      · go_wp2_with fail
        go_meet
        exact ⟨rfl, rfl⟩
      · go_wp2_with fail
        go_meet
        exact ⟨rfl, rfl⟩
    case rest =>
      obtain ⟨rfl, rfl⟩ := hcut
      clear HTT
      go_wp2_with fail
      go_loopw [8, 9, 10] (fun s8 s9 s10 wr => ∃ i st wd : Nat, i ≤ n ∧ st ≤ 201 * i ∧ s8 = .int .i64 st ∧ s9 = .int .i64 wd ∧ s10 = .int .i64 i ∧ ((rows.take i).flatten.length = st ∧ Ir.wide (rows.take i) = wd ∧ ∀ j, j < i → (rows.getD j []).length ≤ 201) ∧ Keeps (fun _ => False) w wr) (fun _ _ s10 _ => n - (intOf s10).toNat)
      case atStart => exact ⟨0, 0, 0, by omega, by omega, rfl, rfl, rfl, ⟨rfl, rfl, fun j hj => absurd hj (by omega)⟩, HK1.out⟩
      case round =>
        obtain ⟨i, st, wd, hi, hst, rfl, rfl, rfl, hS, hK⟩ := hrel
        have HS := Lib.hid hS
        have HK := Lib.hid hK
        clear hS hK
        by_cases hlt : i < n
        · obtain ⟨ob, oo, Ai, ci, rfl, e0, e1, e2⟩ := (HV.out.quiet HK.out).get hlt
          have hil : i < rows.length := by rw [HL.out]; exact hlt
          have hi63 : (i : Int) < n := by omega
          have HFS := Lib.hid (flatten_step rows i hil)
          have HWS := Lib.hid (Ir.wide_step rows i hil)
          have HTI := Lib.hid (show ∀ j, j < i + 1 → ((rows.getD i []).length ≤ 201) → (rows.getD j []).length ≤ 201 from fun j hj h => by
            by_cases e : j = i
            · subst e; exact h
            · exact HS.out.2.2 j (by omega))
          obtain ⟨l, hl⟩ : ∃ l, rows.getD i [] = l := ⟨_, rfl⟩
          rw [hl] at e0 e1 HFS HWS HTI
          clear hl hil
          have HLO := Lib.hid (fun w V => longOps8_any Ai l.length ci l w V e2)
          have HE1 := Lib.hid e1
          have HE0 := Lib.hid e0
          obtain ⟨ll, hll⟩ : ∃ n, l.length = n := ⟨_, rfl⟩
          rw [hll] at HLO HE1 HE0 HWS HTI e0
          have HLL := Lib.hid hll
          clear hll e1 e2
          go_wp2_with fail
          refine (HLO.out _ HE1.out).mono ?_
          rintro e w2 ⟨r, rfl, hr, hk2⟩
          have HK2 := Lib.hid (HK.out.trans hk2 (fun _ _ h => h))
          have HKc := Lib.hid hk2
          clear e0 hk2
          rcases hr with rfl | ⟨rfl, hr⟩
          · go_wp2_with fail
            go_ret
            exact ⟨rfl, HK2.out⟩
          · have e0 := HKc.out.cell' HE0.out (fun h => h)
            have hs1 : (st : Int) + (ll : Int) ≤ 100000 := by omega
            have HS2 := Lib.hid (show (rows.take (i + 1)).flatten.length = st + ll by rw [HFS.out, List.length_append, HS.out.1, HLL.out])
            by_cases hw : wd < ll
            · have t3 : decide (wd < ll) = true := decide_eq_true hw
              have HW2 := Lib.hid (show Ir.wide (rows.take (i + 1)) = ll by rw [HWS.out, HS.out.2.1]; omega)
              clear hw
              go_wp2_with fail
              go_roundw
              case rel => exact ⟨i + 1, st + ll, ll, by omega, by omega, by go_num, rfl, by go_num, ⟨HS2.out, HW2.out, fun j hj => HTI.out j hj hr⟩, HK2.out⟩
              case measure => simp [intOf]; omega
            · have t3 : decide (wd < ll) = false := decide_eq_false hw
              have HW2 := Lib.hid (show Ir.wide (rows.take (i + 1)) = wd by rw [HWS.out, HS.out.2.1]; omega)
              clear hw
              go_wp2_with fail
              go_roundw
              case rel => exact ⟨i + 1, st + ll, wd, by omega, by omega, by go_num, rfl, by go_num, ⟨HS2.out, HW2.out, fun j hj => HTI.out j hj hr⟩, HK2.out⟩
              case measure => simp [intOf]; omega
        · have hin : i = n := by omega
          have HT := Lib.hid (show rows.flatten.length = st ∧ Ir.wide rows = wd ∧ ∀ j, j < rows.length → (rows.getD j []).length ≤ 201 by
            have e : rows.take i = rows := List.take_of_length_le (by rw [HL.out]; omega)
            have h := HS.out
            rw [e] at h
            exact ⟨h.1, h.2.1, fun j hj => h.2.2 j (by rw [HL.out] at hj; omega)⟩)
          have t10 : decide (i < n) = false := decide_eq_false hlt
          have HOR := Lib.hid (fun w V => ownRows_any A n cap rows w V hc (by omega) (fun j hj => by have := HT.out.2.2 j (by rw [HL.out]; exact hj); omega))
          have HPF := Lib.hid (fun w V => planFault_any many A n cap rows w V hc)
          clear HS hin hlt
          generalize wr = w2 at *
          go_wp2_with fail
          clear t10
          refine (HOR.out _ (HV.out.quiet HK.out)).mono ?_
          rintro e w3 ⟨v, rfl, hro, hk3⟩
          obtain ⟨A2, cap2, rfl, hc2, hra⟩ := hro.rows
          rw [HL.out] at hra ⊢
          have HK3 := Lib.hid (HK.out.trans hk3 (fun _ _ h => h))
          have HRA := Lib.hid hra
          clear hro hra hk3
          have HPB := Lib.hid (PlanBox.new w3 pc many A2 n cap2)
          have HK4 := Lib.hid (HK3.out.alloc (.cells #[.int .u32 pc, .int .i64 many, .slice A2 n cap2] 29))
          have HRB := Lib.hid (HRA.out.quiet ((Keeps.refl (fun _ => False) w3).alloc (.cells #[.int .u32 pc, .int .i64 many, .slice A2 n cap2] 29)))
          have HCK := Lib.hid (fun w E V => planCheck_any pc many A2 n cap2 rows w ea E V hc2)
          have HPO := Lib.hid (fun w V => planOps_any pc many A2 n cap2 rows w V hc2 (by omega) (fun j hj => by have := HT.out.2.2 j hj; omega))
          have HPW := Lib.hid (fun w V => planWide_any pc many A2 n cap2 rows w V hc2)
          rw [HT.out.1] at HPO
          rw [HT.out.2.1] at HPW
          have HF8 := Lib.hid (Ir.planFault_le many rows)
          obtain ⟨f, hf⟩ : ∃ f, Ir.planFault many rows = f := ⟨_, rfl⟩
          rw [hf] at HCK HPF HF8
          clear hf
          go_upto_region 15 with fail
          generalize w3.alloc _ = w4 at *
          generalize w3.heap.size = x at *
          obtain ⟨d0, d1, d2, _, _, _⟩ := HPB.out.cells
          go_wp2_with fail
          refine (HCK.out _ (HE.out.quiet HK4.out).toR HRB.out).mono ?_
          rintro e w5 ⟨⟨ev, rfl, hfv⟩, hk5⟩
          have HK5 := Lib.hid (HK4.out.trans hk5 (fun _ _ h => h))
          have HPB5 := Lib.hid (HPB.out.keep hk5 (fun h => h))
          have HR5 := Lib.hid (HRB.out.quiet hk5)
          have HF5 := Lib.hid hfv
          clear d0 d1 d2 hk5 hfv
          go_wp2_with fail
          refine (HPF.out _ (HV.out.quiet HK5.out)).mono ?_
          rintro e w6 ⟨rfl, hk6⟩
          have HK6 := Lib.hid (HK5.out.trans hk6 (fun _ _ h => h))
          have HPB6 := Lib.hid (HPB5.out.keep hk6 (fun h => h))
          have HR6 := Lib.hid (HR5.out.quiet hk6)
          have HF6 := Lib.hid (HF5.out.keep hk6)
          have HFF := Lib.hid (faulted_any f (by have := HF8.out; omega) ev w6 ea (HE.out.quiet HK6.out) HF6.out)
          clear hk6
          go_wp2_with fail
          refine HFF.out.mono ?_
          rintro e w7 ⟨rfl, hk7⟩
          have HK7 := Lib.hid (HK6.out.trans hk7 (fun _ _ h => h))
          have HPB7 := Lib.hid (HPB6.out.keep hk7 (fun h => h))
          have HR7 := Lib.hid (HR6.out.quiet hk7)
          clear hk7
          obtain ⟨d0, d1, d2, _, _, _⟩ := HPB7.out.cells
          go_wp2_with fail
          refine (HPO.out _ HR7.out).mono ?_
          rintro e w8 ⟨rfl, hk8⟩
          have HK8 := Lib.hid (HK7.out.trans hk8 (fun _ _ h => h))
          have HPB8 := Lib.hid (HPB7.out.keep hk8 (fun h => h))
          have HR8 := Lib.hid (HR7.out.quiet hk8)
          clear hk8 d0 d1 d2
          obtain ⟨d0, d1, d2, _, _, _⟩ := HPB8.out.cells
          go_wp2_with fail
          refine (HPW.out _ HR8.out).mono ?_
          rintro e w9 ⟨rfl, hk9⟩
          have HK9 := Lib.hid (HK8.out.trans hk9 (fun _ _ h => h))
          clear hk9 d0 d1 d2
          go_wp2_with fail
          go_ret
          exact ⟨by simp, HK9.out⟩
end Go.Proofs.YtknhfobcejpmeaaDoor

/- Frame -/
/- The frame of every law: what reads before the call reads so behind it, where nothing below the heap's old size has turned; how words that come in are opened. No program in sight but its tables. -/
namespace Go.Proofs.YtknhfobcejpmeaaDoor
open Go.ChangeShapes Go.WideShapes Go.ChangeAt Go.RowKit
set_option linter.unusedVariables false

theorem trodAll_stays {H : Type} {enc : TypeId × Value → H} {P : Program} (hl : laidOutB P = true) {W W' : World} (hb : Below W.heap.size W W') :
    ∀ (ts : List TypeId) (vs : List Value) (ds : List (DataW H)) (ps : List MemPlace), (∀ t ∈ ts, P.readableRec t = true ∧ t < P.types.size) → (∀ x ∈ ps, x.block < W.heap.size) →
      DataW.TrodAll enc P W 0 (fun _ => true) true ts vs ds ps → DataW.TrodAll enc P W' 0 (fun b => decide (b < W.heap.size)) true ts vs ds ps
  | [], vs, ds, ps, _, _, h => by
    obtain ⟨rfl, rfl, rfl⟩ := trodAll_nil h
    exact trodAll_mk0
  | t :: ts, vs, ds, ps, hts, hlt, h => by
    obtain ⟨v, vs', d, ds', p, q, rfl, rfl, rfl, h0, r0⟩ := trodAll_cons h
    obtain ⟨h1, h2⟩ := hts t (by simp)
    exact trodAll_cons_mk (Below.trod hl h1 h2 h0 hb (fun x hx => hlt x (by simp [hx])))
      (trodAll_stays hl hb ts vs' ds' q (fun u hu => hts u (by simp [hu])) (fun x hx => hlt x (by simp [hx])) r0)

/-- a law's end: true, and its arguments as they were -/
theorem law_post {H : Type} {enc : TypeId × Value → H} {P : Program} {f : Func} {s : ChangeSpec} {W W' : World} {args : Array Value} {ds gs : List (DataW H)} {before : List MemPlace} {tb : TypeId}
    (hl : laidOutB P = true) (hts : ∀ t ∈ f.params.toList, P.readableRec t = true ∧ t < P.types.size) (hres : f.resultTypes = #[tb]) (htb : P.underlying tb = some .bool) (hv : s.vars = [])
    (hW : DataW.Whole enc P f.params.toList s.vars false W args.toList ds gs before) (hs : s.fn H (ds ++ gs) = { results := [.lit (.bool true)], args := ds }) (hb : Below W.heap.size W W') :
    s.post enc P f false true false false W args (.bool true) W' := by
  have hW' := hW
  obtain ⟨p, q, hA, hV, rfl, hfz, hnd⟩ := hW
  have hlt : ∀ x ∈ p ++ q, x.block < W.heap.size := fun x hx => hW'.lt x hx
  refine ⟨ds, gs, p ++ q, [], p, [], hW', ?_, ?_, ?_, hb.frame _, fun h => by cases h⟩
  · rw [hs, hres]; exact trodAll_mk1 (shut_bool htb true)
  · rw [hs]; exact trodAll_stays hl hb _ _ _ _ hts (fun x hx => hlt x (by simp [hx])) hA
  · rw [hs, hv]; rfl

/-- what is written of a word: it lies in its bounds -/
theorem rng_u32 {a : Int} (h : (Lit.int .u32 a).wf = true) : 0 ≤ a ∧ a < 4294967296 := by
  simp [Lit.wf, IntKind.min, IntKind.max, IntKind.signed, IntKind.bits] at h; omega

/-- WORDS THAT CAME IN, to be read -/
theorem open_words {H : Type} {enc : TypeId × Value → H} {P : Program} {W : World} {base : Nat} {ts te : TypeId} {v : Value} {d : DataW H} {ps : List MemPlace} (ht : P.underlying ts = some (.slice te)) (he : P.underlying te = some (.int .u32)) (hc : P.cellsOf te = 1)
    (hval : Value.okWide P W .any base ts v) (h : DataW.Trod enc P W 0 (fun _ => true) true ts v d ps) (hlt : ∀ x ∈ ps, x.block < W.heap.size) :
    ∃ (A : Option Addr) (len cap : Nat) (ws : Nat → Int), v = .slice A len cap ∧ Reads W A len cap (fun i => .int .u32 (ws i)) ∧ cap ≤ maxLen ∧ ∀ i, i < len → 0 ≤ ws i ∧ ws i < 4294967296 := by
  obtain ⟨a0, len, cap, rfl⟩ := okWide_slice ht hval
  obtain ⟨fuel, hf⟩ := h
  rcases open_ints ht he hc hf with ⟨hcs, hx⟩ | ⟨a, len', cap', zs, hcs, _, hl, hm, hz, hx, hcell, hwz⟩
  · simp [Value.cells] at hcs
    obtain ⟨rfl, rfl, rfl⟩ := hcs
    exact ⟨none, 0, 0, fun _ => 0, rfl, ⟨Nat.le_refl _, .inl rfl⟩, Nat.zero_le _, fun i hi => by omega⟩
  · simp [Value.cells] at hcs
    obtain ⟨rfl, rfl, rfl⟩ := hcs
    simp only [if_true] at hz
    obtain ⟨b, off, spot⟩ := a
    have hws : ∀ i, i < len → 0 ≤ zs.getD i 0 ∧ zs.getD i 0 < 4294967296 := by
      intro i hi
      have hlt : i < zs.length := by omega
      have e : zs.getD i 0 = zs[i] := by simp [List.getD, hlt]
      have hm := hwz zs[i] (List.getElem_mem _)
      rw [e]
      simp [Lit.wf, IntKind.min, IntKind.max, IntKind.signed, IntKind.bits] at hm
      omega
    by_cases h0 : cap = 0
    · exact ⟨some ⟨b, off, spot⟩, len, cap, fun _ => 0, rfl, ⟨hl, .inl h0⟩, hm, fun i hi => by omega⟩
    · have hspot : spot = none := by simpa [Addr.add] using World.cell?_spot (hcell 0 (by omega))
      subst hspot
      refine ⟨some ⟨b, off, none⟩, len, cap, fun i => zs.getD i 0, rfl, ⟨hl, .inr ⟨b, off, rfl, ?_, fun i hi => ?_⟩⟩, hm, hws⟩
      · have := World.block_lt_of_cell? W _ (hcell 0 (by omega))
        simpa [Addr.add] using this
      · have := hcell i (by omega)
        simpa [Addr.add_lit] using this
end Go.Proofs.YtknhfobcejpmeaaDoor

/- OpenOps -/
/- Records that came in, opened to cells; ops that came in. -/
namespace Go.Proofs.YtknhfobcejpmeaaDoor
open Go.ChangeShapes Go.WideShapes Go.ChangeAt Go.RowKit Go.Deep
set_option linter.unusedVariables false

/-- a record's field, read from the one cell it has -/
theorem field_read {H : Type} {enc : TypeId × Value → H} {P : Program} {W : World} {te : TypeId} {fs : Array Field} {fuel base : Nat} {spare : Nat → Bool} {held : Bool} {cs : List Value} {x : DataW H × List MemPlace}
    (he : P.underlying te = some (.struct fs)) (hone : oneCellFields P fs = true) (hC : P.cellsOf te = fs.size) (h : DataW.trod enc P W base spare held fuel te cs = some x) (j : Nat) (f : Field) (hj : fs[j]? = some f) :
    ∃ v y n, cs[j]? = some v ∧ DataW.trod enc P W base spare held n f.type [v] = some y := by
  obtain ⟨xs, n, _, _, hlen, hxl, hg⟩ := DataW.trod_struct he h
  obtain ⟨ho, hk⟩ := hone_of hone j f hj
  have hjl : j < fs.size := (Array.getElem?_eq_some_iff.1 hj).1
  have hjc : j < cs.length := by omega
  have h1 := hg j f hj
  rw [ho, hk, List.drop_eq_getElem_cons hjc, List.getElem?_eq_getElem (by omega)] at h1
  exact ⟨cs[j], _, n, List.getElem?_eq_getElem hjc, h1⟩

theorem open_recs {H : Type} {enc : TypeId × Value → H} {P : Program} {W : World} {base : Nat} {ts te : TypeId} {fs : Array Field} {v : Value} {d : DataW H} {ps : List MemPlace} (ht : P.underlying ts = some (.slice te)) (he : P.underlying te = some (.struct fs))
    (hone : oneCellFields P fs = true) (hC : P.cellsOf te = fs.size) (h0 : 0 < fs.size) (hval : Value.okWide P W .any base ts v) (h : DataW.Trod enc P W 0 (fun _ => true) true ts v d ps) :
    ∃ (A : Option Addr) (len cap : Nat), v = .slice A len cap ∧ len ≤ cap ∧ cap ≤ maxLen ∧ (cap = 0 ∨ ∃ b o, A = some ⟨b, o, none⟩ ∧ b < W.heap.size ∧
      ∀ i, i < len → ∀ j f, fs[j]? = some f → ∃ v y n, W.cell? ⟨b, o + i * fs.size + j, none⟩ = some v ∧ DataW.trod enc P W 0 (fun _ => true) true n f.type [v] = some y) := by
  obtain ⟨a0, len, cap, rfl⟩ := okWide_slice ht hval
  obtain ⟨fuel, hf⟩ := h
  rcases open_slice ht hf with ⟨hcs, _⟩ | ⟨a, len', cap', m, n, D, Pl, hcs, hb, hl, hm, hmm, hx, hi⟩
  · simp [Value.cells] at hcs
    obtain ⟨rfl, rfl, rfl⟩ := hcs
    exact ⟨none, 0, 0, rfl, Nat.le_refl _, Nat.zero_le _, .inl rfl⟩
  · simp [Value.cells] at hcs
    obtain ⟨rfl, rfl, rfl⟩ := hcs
    simp only [if_true] at hmm
    subst hmm
    refine ⟨some a, len, m, rfl, hl, hm, ?_⟩
    by_cases hc0 : m = 0
    · exact .inl hc0
    · right
      obtain ⟨b, off, spot⟩ := a
      have hfl : ∀ i, i < m → ∀ j f, fs[j]? = some f → ∃ v y n, W.cell? (((⟨b, off, spot⟩ : Addr).add (i * fs.size)).add j) = some v ∧ DataW.trod enc P W 0 (fun _ => true) true n f.type [v] = some y := by
        intro i him j f hj
        obtain ⟨cs', hc, ht'⟩ := hi i him
        rw [hC] at hc
        obtain ⟨_, hcl, hat⟩ := World.cells?_some hc
        obtain ⟨v, y, n', hv, hy⟩ := field_read he hone hC ht' j f hj
        exact ⟨v, y, n', (hat j (Array.getElem?_eq_some_iff.1 hj).1).trans hv, hy⟩
      obtain ⟨f0, hf0⟩ : ∃ f, fs[0]? = some f := ⟨fs[0], Array.getElem?_eq_getElem h0⟩
      obtain ⟨v0, _, _, hc00, _⟩ := hfl 0 (by omega) 0 f0 hf0
      have hspot : spot = none := by simpa [Addr.add] using World.cell?_spot hc00
      subst hspot
      refine ⟨b, off, rfl, by simpa [Addr.add] using World.block_lt_of_cell? W _ hc00, fun i hil j f hj => ?_⟩
      obtain ⟨v, y, n', h1, h2⟩ := hfl i (by omega) j f hj
      rw [Addr.add_lit, Addr.add_lit] at h1
      exact ⟨v, y, n', h1, h2⟩

/-- the types of a struct's fields, each of one cell -/
def structTypes (P : Program) (t : TypeId) : Option (List TypeId) :=
  match P.underlying t with
  | some (.struct fs) => if oneCellFields P fs = true ∧ P.cellsOf t = fs.size then some (fs.toList.map (·.type)) else none
  | _ => none
theorem structTypes_some {P : Program} {t : TypeId} {ts : List TypeId} (h : structTypes P t = some ts) : ∃ fs : Array Field, P.underlying t = some (.struct fs) ∧ oneCellFields P fs = true ∧ P.cellsOf t = fs.size ∧ fs.size = ts.length ∧ ∀ (j : Nat) (ty : TypeId), ts[j]? = some ty → ∃ f : Field, fs[j]? = some f ∧ f.type = ty := by
  unfold structTypes at h
  split at h
  · rename_i fs hu
    split at h
    · rename_i hc
      injection h with h
      subst h
      refine ⟨fs, hu, hc.1, hc.2, by rw [List.length_map, Array.length_toList], fun j ty hj => ?_⟩
      rw [List.getElem?_map, Array.getElem?_toList] at hj
      obtain ⟨f, h1, h2⟩ := Option.map_eq_some_iff.1 hj
      exact ⟨f, h1, h2⟩
    · cases h
  · cases h
theorem open_recs' {H : Type} {enc : TypeId × Value → H} {P : Program} {W : World} {base : Nat} {ts te : TypeId} {tys : List TypeId} {v : Value} {d : DataW H} {ps : List MemPlace} (ht : P.underlying ts = some (.slice te)) (he : structTypes P te = some tys)
    (h0 : 0 < tys.length) (hval : Value.okWide P W .any base ts v) (h : DataW.Trod enc P W 0 (fun _ => true) true ts v d ps) :
    ∃ (A : Option Addr) (len cap : Nat), v = .slice A len cap ∧ len ≤ cap ∧ cap ≤ maxLen ∧ (cap = 0 ∨ ∃ b o, A = some ⟨b, o, none⟩ ∧ b < W.heap.size ∧
      ∀ i, i < len → ∀ j ty, tys[j]? = some ty → ∃ v y n, W.cell? ⟨b, o + i * tys.length + j, none⟩ = some v ∧ DataW.trod enc P W 0 (fun _ => true) true n ty [v] = some y) := by
  obtain ⟨fs, h1, h2, h3, h4, h5⟩ := structTypes_some he
  obtain ⟨A, len, cap, hv, hl, hm, hc⟩ := open_recs ht h1 h2 h3 (by omega) hval h
  refine ⟨A, len, cap, hv, hl, hm, ?_⟩
  rcases hc with hc | ⟨b, o, hA, hb, hc⟩
  · exact .inl hc
  · refine .inr ⟨b, o, hA, hb, fun i hi j ty hj => ?_⟩
    obtain ⟨f, hf, rfl⟩ := h5 j ty hj
    have := hc i hi j f hf
    rwa [h4] at this

theorem types_op : structTypes Tryd.prog 47 = some [9, 3, 3, 3, 22, 3] := by kernel_rfl

/-- an int field, a bool field -/
def gInt (w : World) (b o : Nat) : Int := match w.cell? ⟨b, o, none⟩ with
  | some (.int _ n) => n
  | _ => 0
def gBool (w : World) (b o : Nat) : Bool := match w.cell? ⟨b, o, none⟩ with
  | some (.bool n) => n
  | _ => false
theorem fld_int {H : Type} {enc : TypeId × Value → H} {P : Program} {W : World} {b o n : Nat} {ty : TypeId} {k : IntKind} {v : Value} {y : DataW H × List MemPlace} (ht : P.underlying ty = some (.int k)) (hc : W.cell? ⟨b, o, none⟩ = some v)
    (h : DataW.trod enc P W 0 (fun _ => true) true n ty [v] = some y) : W.cell? ⟨b, o, none⟩ = some (.int k (gInt W b o)) ∧ (Lit.int k (gInt W b o)).wf = true := by
  obtain ⟨z, hz, _, hw⟩ := DataW.trod_int ht h
  injection hz with hz
  subst hz
  have : gInt W b o = z := by rw [gInt, hc]
  rw [this]
  exact ⟨hc, hw⟩
theorem fld_bool {H : Type} {enc : TypeId × Value → H} {P : Program} {W : World} {b o n : Nat} {ty : TypeId} {v : Value} {y : DataW H × List MemPlace} (ht : P.underlying ty = some .bool) (hc : W.cell? ⟨b, o, none⟩ = some v)
    (h : DataW.trod enc P W 0 (fun _ => true) true n ty [v] = some y) : W.cell? ⟨b, o, none⟩ = some (.bool (gBool W b o)) := by
  obtain ⟨z, hz, _⟩ := DataW.trod_bool ht h
  injection hz with hz
  subst hz
  rw [gBool, hc]

def gStr (w : World) (b o : Nat) : ByteArray := match w.cell? ⟨b, o, none⟩ with
  | some (.string n) => n
  | _ => ByteArray.empty
theorem fld_str {H : Type} {enc : TypeId × Value → H} {P : Program} {W : World} {b o n : Nat} {ty : TypeId} {v : Value} {y : DataW H × List MemPlace} (ht : P.underlying ty = some .string) (hc : W.cell? ⟨b, o, none⟩ = some v)
    (h : DataW.trod enc P W 0 (fun _ => true) true n ty [v] = some y) : W.cell? ⟨b, o, none⟩ = some (.string (gStr W b o)) := by
  obtain ⟨z, hz, _⟩ := DataW.trod_string ht h
  injection hz with hz
  subst hz
  rw [gStr, hc]
theorem rng_int {a : Int} (h : (Lit.int .i64 a).wf = true) : i64R a := by
  have h1 := h
  simp [Lit.wf] at h1
  exact h1
/-- an op that lies there -/
def gOp (w : World) (b o : Nat) : Ir.Op := ⟨gStr w b o, gInt w b (o + 1), gInt w b (o + 2), gInt w b (o + 3), gInt w b (o + 4), gInt w b (o + 5)⟩
def gOps (w : World) (b o n : Nat) : List Ir.Op := (List.range n).map fun i => gOp w b (o + i * 6)
theorem gOps_get (w : World) (b o n i : Nat) (h : i < n) : (gOps w b o n).getD i Ir.nop = gOp w b (o + i * 6) := by
  unfold gOps
  rw [List.getD_eq_getElem?_getD, List.getElem?_map, List.getElem?_range h]
  rfl
theorem gOps_len (w : World) (b o n : Nat) : (gOps w b o n).length = n := by simp [gOps]

set_option maxRecDepth 100000 in
/-- what a slice's cells of type Op give -/
theorem ops_of_cells {H : Type} {enc : TypeId × Value → H} {W : World} {b o len cap : Nat} (hl : len ≤ cap) (hb : b < W.heap.size)
    (hc : ∀ i, i < len → ∀ j ty, [9, 3, 3, 3, 22, 3][j]? = some ty → ∃ v y n, W.cell? ⟨b, o + i * 6 + j, none⟩ = some v ∧ DataW.trod enc Tryd.prog W 0 (fun _ => true) true n ty [v] = some y) :
    OpsAt W (some ⟨b, o, none⟩) len cap (gOps W b o len) ∧ ∀ x ∈ gOps W b o len, OpOk x := by
  have f0 : ∀ i, i < len → W.cell? ⟨b, o + i * 6 + 0, none⟩ = some (.string (gStr W b (o + i * 6 + 0))) := fun i hi => by
    obtain ⟨v, y, n, h1, h2⟩ := hc i hi 0 _ rfl
    exact fld_str Tryd.underlying9 h1 h2
  have f1 : ∀ i, i < len → W.cell? ⟨b, o + i * 6 + 1, none⟩ = some (.int .i64 (gInt W b (o + i * 6 + 1))) ∧ _ := fun i hi => by
    obtain ⟨v, y, n, h1, h2⟩ := hc i hi 1 _ rfl
    exact fld_int Tryd.underlying3 h1 h2
  have f2 : ∀ i, i < len → W.cell? ⟨b, o + i * 6 + 2, none⟩ = some (.int .i64 (gInt W b (o + i * 6 + 2))) ∧ _ := fun i hi => by
    obtain ⟨v, y, n, h1, h2⟩ := hc i hi 2 _ rfl
    exact fld_int Tryd.underlying3 h1 h2
  have f3 : ∀ i, i < len → W.cell? ⟨b, o + i * 6 + 3, none⟩ = some (.int .i64 (gInt W b (o + i * 6 + 3))) ∧ _ := fun i hi => by
    obtain ⟨v, y, n, h1, h2⟩ := hc i hi 3 _ rfl
    exact fld_int Tryd.underlying3 h1 h2
  have f4 : ∀ i, i < len → W.cell? ⟨b, o + i * 6 + 4, none⟩ = some (.int .u32 (gInt W b (o + i * 6 + 4))) ∧ _ := fun i hi => by
    obtain ⟨v, y, n, h1, h2⟩ := hc i hi 4 _ rfl
    exact fld_int Tryd.underlying22 h1 h2
  have f5 : ∀ i, i < len → W.cell? ⟨b, o + i * 6 + 5, none⟩ = some (.int .i64 (gInt W b (o + i * 6 + 5))) ∧ _ := fun i hi => by
    obtain ⟨v, y, n, h1, h2⟩ := hc i hi 5 _ rfl
    exact fld_int Tryd.underlying3 h1 h2
  refine ⟨⟨gOps_len _ _ _ _, hl, .inr ⟨b, o, rfl, hb, fun i hi => ?_⟩⟩, fun x hx => ?_⟩
  · rw [gOps_get W b o len i hi]
    exact ⟨f0 i hi, (f1 i hi).1, (f2 i hi).1, (f3 i hi).1, (f4 i hi).1, (f5 i hi).1⟩
  · unfold gOps at hx
    obtain ⟨i, hi, rfl⟩ := List.mem_map.1 hx
    have hi := List.mem_range.1 hi
    have h4 := rng_u32 (f4 i hi).2
    exact ⟨rng_int (f1 i hi).2, rng_int (f2 i hi).2, rng_int (f3 i hi).2, ⟨h4.1, Int.le_of_lt_add_one h4.2⟩, rng_int (f5 i hi).2⟩
set_option maxRecDepth 100000 in
/-- OPS THAT CAME IN, to be read -/
theorem open_ops {H : Type} {enc : TypeId × Value → H} {W : World} {base : Nat} {v : Value} {d : DataW H} {ps : List MemPlace}
    (hval : Value.okWide Tryd.prog W .any base 26 v) (h : DataW.Trod enc Tryd.prog W 0 (fun _ => true) true 26 v d ps) :
    ∃ (A : Option Addr) (len cap : Nat) (l : List Ir.Op), v = .slice A len cap ∧ OpsAt W A len cap l ∧ cap ≤ 9223372036854775807 ∧ ∀ x ∈ l, OpOk x := by
  obtain ⟨A, len, cap, rfl, hl, hm, hc⟩ := open_recs' Tryd.underlying26 types_op (Nat.succ_pos _) hval h
  have hcap : cap ≤ 9223372036854775807 := by unfold maxLen at hm; omega
  rcases hc with hc | ⟨b, o, rfl, hb, hc⟩
  · refine ⟨A, len, cap, [], rfl, ⟨?_, hl, .inl hc⟩, hcap, fun x hx => by cases hx⟩
    simp
    omega
  · have := ops_of_cells (enc := enc) hl hb hc
    exact ⟨_, len, cap, _, rfl, this.1, hcap, this.2⟩
end Go.Proofs.YtknhfobcejpmeaaDoor
