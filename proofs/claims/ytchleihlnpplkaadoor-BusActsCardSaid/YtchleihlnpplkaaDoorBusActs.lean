/- The walk of the law BusActs. -/
import Derived.Test.YtchleihlnpplkaaDoorAsBusWalk
import Derived.Test.YtchleihlnpplkaaDoorBusCopy
import Derived.Test.YtchleihlnpplkaaDoorApartWalk
namespace Go.Proofs.YtchleihlnpplkaaDoor
open Go.RowKit Go.Deep
set_option linter.unusedVariables false

theorem Grew.of {O O' : Nat → Prop} {w wc : World} (h : Grew O O' wc) (hs : w.heap.size ≤ wc.heap.size) : Grew O O' w := fun k hk => by
  rcases h k hk with h | h
  · exact .inl h
  · exact .inr (Nat.le_trans hs h)
theorem bus_store_at (b : Nat) (O : Nat → Prop) (s : Sb) (a n v c : Int) (w wc : World) (ea : Nat → Addr) (E : ErrsAll w ea) (h : BInv b O w s) (hk : Keeps (fun _ => False) w wc) (hl : s.l.length < 1000000) (hn : s.tn < 1000000) (ha : 0 ≤ a ∧ a < 4294967296) (hv : 0 ≤ v ∧ v < 4294967296) :
    Calls Tryd.prog 18 #[.pointer (some ⟨b, 0, none⟩), .int .u32 a, .int .i64 n, .int .u32 v, .int .i64 c] wc fun e w' => e = .returned (errOf ea (stC a n)) ∧
      ∃ O', BInv b O' w' (stepS a n v c s) ∧ Keeps O w w' ∧ Grew O O' w :=
  (bus_store b O s a n v c wc ea (E.quiet hk).three (h.keep hk (fun _ _ h => h)) hl hn ha hv).mono fun e w' ⟨he, O', h1, h2, h3⟩ => ⟨he, O', h1, Keeps.trans (hk.mono (fun _ _ h => h.elim)) h2 (fun _ _ h => h), h3.of hk.size⟩
theorem ref_store_at (b : Nat) (O : Nat → Prop) (s : Sb) (a n v c : Int) (w wc : World) (h : RInv b O w s) (hk : Keeps (fun _ => False) w wc) (hl : s.l.length < 1000000) (hn : s.tn < 1000000) (ha : 0 ≤ a ∧ a < 4294967296) (hw : (Lit.int .i64 n).wf = true) (hv : 0 ≤ v ∧ v < 4294967296) :
    Calls Tryd.prog 24 #[.pointer (some ⟨b, 0, none⟩), .int .u32 a, .int .i64 n, .int .u32 v, .int .i64 c] wc fun e w' => e = .returned (.int .i64 (stC a n)) ∧
      ∃ O', RInv b O' w' (stepS a n v c s) ∧ Keeps O w w' ∧ Grew O O' w :=
  (ref_store b O s a n v c wc (h.keep hk (fun _ _ h => h)) hl hn ha hw hv).mono fun e w' ⟨he, O', h1, h2, h3⟩ => ⟨he, O', h1, Keeps.trans (hk.mono (fun _ _ h => h.elim)) h2 (fun _ _ h => h), h3.of hk.size⟩
theorem coded_at (c : Nat) (hc : c ≤ 10) (w wc : World) (ea : Nat → Addr) (E : ErrsAll w ea) (hk : Keeps (fun _ => False) w wc) :
    Calls Tryd.prog 23 #[errOf ea c, .int .i64 c] wc fun e w' => e = .returned (.bool true) ∧ Keeps (fun _ => False) wc w' :=
  coded_any c hc wc ea (E.quiet hk)
theorem stC_le (a n : Int) : stC a n ≤ 10 := by
  unfold stC
  split
  · unfold rightC; split <;> (try split) <;> (try split) <;> omega
  · have := devC_le a n; omega
theorem outL_le (a v : Int) (l : List UInt8) : (outL a v l).length ≤ l.length + 1 := by
  unfold outL
  split
  · simp [byteS]
  · omega
theorem stepS_le (a n v c : Int) (s : Sb) (i : Nat) (h : s.l.length ≤ i ∧ s.tn ≤ i) : (stepS a n v c s).l.length ≤ i + 1 ∧ (stepS a n v c s).tn ≤ i + 1 := by
  have := outL_le a v s.l
  unfold stepS
  split
  · omega
  · split
    · dsimp only; omega
    · dsimp only; omega
theorem stepL_le (a n c : Int) (s : Sb) (i : Nat) (h : s.l.length ≤ i ∧ s.tn ≤ i) : (stepL a n c s).l.length ≤ i + 1 ∧ (stepL a n c s).tn ≤ i + 1 := by
  unfold stepL
  split
  · omega
  · split
    · omega
    · dsimp only; omega
theorem ldV_rng (a n c : Int) (sg : Bool) (s : Sb) (hm : ∀ i, i < 16384 → 0 ≤ s.m i ∧ s.m i < 256) (hl : 0 ≤ s.lamp ∧ s.lamp < 4294967296) : True := trivial

/-- a bus and the reference's bus, side by side -/
structure Both (b rb : Nat) (w0 w : World) (s : Sb) (O O2 : Nat → Prop) : Prop where
  bus : BInv b O w s
  ref : RInv rb O2 w s
  dis : ∀ k, O k → ¬ O2 k
  low : ∀ k, (O k ∨ O2 k) → w0.heap.size ≤ k
  keeps : Keeps (fun _ => False) w0 w
theorem Both.quiet {b rb : Nat} {w0 w w' : World} {s : Sb} {O O2 : Nat → Prop} (h : Both b rb w0 w s O O2) (k : Keeps (fun _ => False) w w') : Both b rb w0 w' s O O2 :=
  ⟨h.bus.keep k (fun _ _ h => h), h.ref.keep k (fun _ _ h => h), h.dis, h.low, h.keeps.trans k (fun _ _ h => h)⟩
/-- both have taken the same step -/
theorem Both.step {b rb : Nat} {w0 w w1 w2 : World} {s s' : Sb} {O O2 O' O2' : Nat → Prop} (h : Both b rb w0 w s O O2) (hB : BInv b O' w1 s') (k1 : Keeps O w w1) (g1 : Grew O O' w) (hR : RInv rb O2' w2 s') (k2 : Keeps O2 w1 w2) (g2 : Grew O2 O2' w1) :
    Both b rb w0 w2 s' O' O2' := by
  have hl := h.ref.lt
  have hl1 := hB.lt
  have hs := h.keeps.size
  have hs1 := k1.size
  have hd : ∀ k, O' k → ¬ O2 k := fun k hk h2 => by
    rcases g1 k hk with h3 | h3
    · exact h.dis k h3 h2
    · have := hl k h2; omega
  refine ⟨hB.keep k2 hd, hR, fun k hk h2 => ?_, fun k hk => ?_, (h.keeps.trans k1 (fun k hk h1 => ?_)).trans k2 (fun k hk h1 => ?_)⟩
  · rcases g2 k h2 with h3 | h3
    · exact hd k hk h3
    · have := hl1 k hk; omega
  · rcases hk with hk | hk
    · rcases g1 k hk with h3 | h3
      · exact h.low k (.inl h3)
      · omega
    · rcases g2 k hk with h3 | h3
      · exact h.low k (.inr h3)
      · omega
  · have := h.low k (.inl h1); omega
  · have := h.low k (.inr h1); omega

set_option maxRecDepth 100000 in
set_option maxHeartbeats 4000000 in
theorem busActs_any (len cap : Nat) (A : Option Addr) (n2 cap2 : Nat) (A2 : Option Addr) (w : World) (ws : Nat → Int) (st sg : Nat → Bool) (ad sz vv ct : Nat → Int) (ea : Nat → Addr) (E : ErrsAll w ea) (hR : Reads w A len cap (fun i => .int .u32 (ws i))) (hc : cap ≤ 9223372036854775807) (hr : ∀ i, i < len → 0 ≤ ws i ∧ ws i < 4294967296) (hA : Acts w A2 n2 cap2 st sg ad sz vv ct) :
    Calls Tryd.prog 6 #[.slice A len cap, .slice A2 n2 cap2] w fun e w' => e = .returned (.bool true) ∧ Keeps (fun _ => False) w w' := by
  have hlc := hR.1
  have hlc2 := hA.reads.1
  have hc2 := hA.cap
  by_cases h5 : 200 < len ∨ 60 < n2
  · by_cases h6 : 200 < len
    · go_enter Tryd.func6, Tryd.ntmps6
      go_wp2_with fail
      refine (bused_any _).mono ?_
      rintro e w1 ⟨rfl, hK1⟩
      go_wp2_with fail
      go_ret
      exact ⟨rfl, hK1⟩
    · have h7 : 60 < n2 := by omega
      go_enter Tryd.func6, Tryd.ntmps6
      go_wp2_with fail
      refine (bused_any _).mono ?_
      rintro e w1 ⟨rfl, hK1⟩
      go_wp2_with fail
      go_ret
      exact ⟨rfl, hK1⟩
  · have h6 : ¬ 200 < len := by omega
    have h7 : ¬ 60 < n2 := by omega
    have HE := Lib.hid E
    have HAc := Lib.hid hA
    have HR := Lib.hid hR
    have HX := Lib.hid hr
    clear E hA hR hr
    go_enter Tryd.func6, Tryd.ntmps6
    go_wp2_with fail
    refine (bused_any _).mono ?_
    rintro e w1 ⟨rfl, hK1⟩
    go_wp2_with fail
    refine (bus_new len cap A _ ws (HR.out.keep hK1 (fun _ _ _ h => h)) hc HX.out).mono ?_
    rintro e w2 ⟨b, O, rfl, hB, hk2, hO⟩
    go_wp2_with fail
    have hK2 := hK1.trans hk2 (fun _ _ h => h)
    refine (ref_new len cap A _ ws (HR.out.keep hK2 (fun _ _ _ h => h)) hc HX.out).mono ?_
    rintro e w3 ⟨rb, O2, rfl, hRf, hk3, hO2⟩
    have hJ : Both b rb w w3 (s0 (min len 4096) ws) O O2 := ⟨hB.keep hk3 (fun _ _ h => h), hRf, fun k h1 h2 => by have := hB.lt k h1; have := hO2 k h2; omega, fun k hk => by
      have z1 := hK1.size
      have z2 := hk2.size
      rcases hk with h | h
      · have := hO k h; omega
      · have := hO2 k h; omega, hK2.trans hk3 (fun _ _ h => h)⟩
    have HJ := Lib.hid hJ
    clear hJ hB hk2 hO hRf hk3 hO2 hK1 hK2
    go_wp2_with fail
    go_loopw [8] (fun s8 wr => ∃ (i : Nat) (s : Sb) (O O2 : Nat → Prop), i ≤ n2 ∧ s8 = .int .i64 i ∧ Both b rb w wr s O O2 ∧ s.l.length ≤ i ∧ s.tn ≤ i) (fun s8 _ => n2 - (intOf s8).toNat)
    case atStart => exact ⟨0, _, O, O2, by omega, rfl, HJ.out, Nat.le_refl _, Nat.le_refl _⟩
    case round =>
      clear HJ
      obtain ⟨i, s, O, O2, hi, rfl, hJ, hsl, hst⟩ := hrel
      have HJ := Lib.hid hJ
      clear hJ
      by_cases hlt : i < n2
      · have ha := HAc.out.ad i hlt
        have hv := HAc.out.vv i hlt
        have hsz := HAc.out.sz i hlt
        have hct := HAc.out.ct i hlt
        obtain ⟨ab, ao, rfl, hab, hcell⟩ : ∃ ab ao, A2 = some ⟨ab, ao, none⟩ ∧ ab < wr.heap.size ∧ ∀ j, j < 6 → wr.cell? ⟨ab, ao + i * 6 + j, none⟩ = some (actC st sg ad sz vv ct i j) := by
          obtain ⟨h1, h2 | ⟨ab, ao, h2, h3, h4⟩⟩ := HAc.out.reads.keep HJ.out.keeps (fun _ _ _ h => h)
          · omega
          · exact ⟨ab, ao, h2, h3, h4 i hlt⟩
        have e0 : wr.cell? ⟨ab, ao + i * 6, none⟩ = some (.bool (st i)) := hcell 0 (by omega)
        have e1 : wr.cell? ⟨ab, ao + i * 6 + 1, none⟩ = some (.int .u32 (ad i)) := hcell 1 (by omega)
        have e2 : wr.cell? ⟨ab, ao + i * 6 + 2, none⟩ = some (.int .i64 (sz i)) := hcell 2 (by omega)
        have e3 : wr.cell? ⟨ab, ao + i * 6 + 3, none⟩ = some (.bool (sg i)) := hcell 3 (by omega)
        have e4 : wr.cell? ⟨ab, ao + i * 6 + 4, none⟩ = some (.int .u32 (vv i)) := hcell 4 (by omega)
        have e5 : wr.cell? ⟨ab, ao + i * 6 + 5, none⟩ = some (.int .i64 (ct i)) := hcell 5 (by omega)
        clear hcell
        generalize st i = s0 at *
        generalize ad i = a at *
        generalize sz i = n at *
        generalize sg i = sgn at *
        generalize vv i = v at *
        generalize ct i = c at *
        have hV := Var6.new wr s0 sgn a n v c 42
        have kx := (Keeps.refl (fun _ => False) wr).alloc (.cells #[.bool s0, .int .u32 a, .int .i64 n, .bool sgn, .int .u32 v, .int .i64 c] 42)
        have HJx := Lib.hid (HJ.out.quiet kx)
        have HEx := Lib.hid (HE.out.quiet HJx.out.keeps)
        have hx1 : ¬ O wr.heap.size := fun h => by have := HJ.out.bus.lt _ h; omega
        have hx2 : ¬ O2 wr.heap.size := fun h => by have := HJ.out.ref.lt _ h; omega
        clear kx
        cases s0
        · go_wp2_with fail
          generalize hwx : wr.alloc (.cells #[.bool false, .int .u32 a, .int .i64 n, .bool sgn, .int .u32 v, .int .i64 c] 42) = wx at *
          generalize wr.heap.size = x at *
          obtain ⟨f0, f1, f2, f3, f4, f5⟩ := hV
          clear hwx e0 e1 e2 e3 e4 e5
          refine (bus_load b O s a n c sgn _ ea HEx.out.three HJx.out.bus (by omega) ha).mono ?_
          rintro e w1 ⟨rfl, O', hB1, hk1, hg1⟩
          have g1 := hk1.cell' f1 hx1
          have g2 := hk1.cell' f2 hx1
          have g3 := hk1.cell' f3 hx1
          have g5 := hk1.cell' f5 hx1
          have HR1 := Lib.hid (HJx.out.ref.keep hk1 (fun k h2 h1 => HJx.out.dis k h1 h2))
          have HG1 := Lib.hid hg1
          have HB1 := Lib.hid hB1
          have HK1 := Lib.hid hk1
          clear hg1 hB1 hk1 f0 f1 f2 f3 f4 f5
          generalize hy : ldV a n c sgn s = y at *
          have HY := Lib.hid hy
          clear hy
          generalize herr : errOf ea (stC a n) = er at *
          have HER := Lib.hid herr
          clear herr
          go_wp2_with fail
          refine (ref_load rb O2 s a n c sgn _ HR1.out (by omega) ha hsz hct).mono ?_
          rintro e w2 ⟨rfl, O2', hR2, hk2, hg2⟩
          rw [HY.out]
          have HJ2 := Lib.hid (HJx.out.step HB1.out HK1.out HG1.out hR2 hk2 hg2)
          have HE2 := Lib.hid (HE.out.quiet HJ2.out.keeps)
          clear hR2 hk2 hg2 g1 g2 g3 g5
          go_wp2_with fail
          rw [← HER.out]
          refine (coded_any (stC a n) (stC_le a n) _ ea HE2.out).mono ?_
          rintro e w3 ⟨rfl, hk3⟩
          have HJ3 := Lib.hid (HJ2.out.quiet hk3)
          have hle := stepL_le a n c s i ⟨hsl, hst⟩
          clear hk3
          go_wp2
          go_roundw
          case rel => exact ⟨i + 1, _, O', O2', by omega, by go_num, HJ3.out, hle.1, hle.2⟩
          case measure => simp [intOf]; omega
        · go_wp2_with fail
          generalize hwx : wr.alloc (.cells #[.bool true, .int .u32 a, .int .i64 n, .bool sgn, .int .u32 v, .int .i64 c] 42) = wx at *
          generalize wr.heap.size = x at *
          obtain ⟨f0, f1, f2, f3, f4, f5⟩ := hV
          clear hwx e0 e1 e2 e3 e4 e5
          go_region_held3 (fun w' => w'.cell? ⟨x, 1, none⟩ = some (.int .u32 a) ∧ w'.cell? ⟨x, 2, none⟩ = some (.int .i64 n) ∧ w'.cell? ⟨x, 4, none⟩ = some (.int .u32 v) ∧ w'.cell? ⟨x, 5, none⟩ = some (.int .i64 c))
            (first | (refine ⟨?_, ?_, ?_, ?_⟩ <;> first | assumption | (refine Keeps.cell' (S := fun _ => False) (w := w2) ?_ (by assumption) (fun f => f); (repeat (first | exact Keeps.refl _ _ | assumption | apply Keeps.drew | apply Keeps.drewN | apply Keeps.alloc | (refine Keeps.trans ?_ (by assumption) (fun _ _ h => h)))); done) | (refine Keeps.cell' (S := fun _ => False) (w := w1) ?_ (by assumption) (fun f => f); (repeat (first | exact Keeps.refl _ _ | assumption | apply Keeps.drew | apply Keeps.drewN | apply Keeps.alloc | (refine Keeps.trans ?_ (by assumption) (fun _ _ h => h)))); done) | (refine Keeps.cell' (S := fun _ => False) (w := wx) ?_ (by assumption) (fun f => f); (repeat (first | exact Keeps.refl _ _ | assumption | apply Keeps.drew | apply Keeps.drewN | apply Keeps.alloc | (refine Keeps.trans ?_ (by assumption) (fun _ _ h => h)))); done)) | (trace_state; fail))
            (first
              | (go_at_call 18; refine (bus_store_at b O s a n v c wx _ ea HEx.out HJx.out.bus ?_ (by omega) (by omega) ha hv).mono ?_; (repeat (first | exact Keeps.refl _ _ | assumption | apply Keeps.drew | apply Keeps.drewN | apply Keeps.alloc | (refine Keeps.trans ?_ (by assumption) (fun _ _ h => h)))); rintro e w1 ⟨rfl, O', hB1, hk1, hg1⟩; have g1 := hk1.cell' f1 hx1; have g2 := hk1.cell' f2 hx1; have g4 := hk1.cell' f4 hx1; have g5 := hk1.cell' f5 hx1; have HG1 := Lib.hid hg1; have HB1 := Lib.hid hB1; have HK1 := Lib.hid hk1; clear hg1 hB1 hk1)
              | (go_at_call 24; refine (ref_store_at rb O2 s a n v c w1 _ (HJx.out.ref.keep HK1.out (fun k h2 h1 => HJx.out.dis k h1 h2)) ?_ (by omega) (by omega) ha hsz hv).mono ?_; (repeat (first | exact Keeps.refl _ _ | assumption | apply Keeps.drew | apply Keeps.drewN | apply Keeps.alloc | (refine Keeps.trans ?_ (by assumption) (fun _ _ h => h)))); rintro e w2 ⟨rfl, O2', hR2, hk2, hg2⟩; have k1 := hk2.cell' g1 hx2; have k2 := hk2.cell' g2 hx2; have k4 := hk2.cell' g4 hx2; have k5 := hk2.cell' g5 hx2; have HJ2 := Lib.hid (HJx.out.step HB1.out HK1.out HG1.out hR2 hk2 hg2); have HE2 := Lib.hid (HE.out.quiet HJ2.out.keeps); clear hR2 hk2 hg2)
              | (go_at_call 23; refine (coded_at (stC a n) (stC_le a n) w2 _ ea HE2.out ?_).mono ?_; (repeat (first | exact Keeps.refl _ _ | assumption | apply Keeps.drew | apply Keeps.drewN | apply Keeps.alloc | (refine Keeps.trans ?_ (by assumption) (fun _ _ h => h)))); rintro e w3 ⟨rfl, hk3⟩))
          rename_i hh
          clear hh
          have HJ3 := Lib.hid (HJ2.out.quiet hk3)
          have hle := stepS_le a n v c s i ⟨hsl, hst⟩
          clear hk3 k1 k2 k4 k5 g1 g2 g4 g5 f0 f1 f2 f3 f4 f5
          go_wp2
          go_roundw
          case rel => exact ⟨i + 1, _, O', O2', by omega, by go_num, HJ3.out, hle.1, hle.2⟩
          case measure => simp [intOf]; omega
      · obtain rfl : i = n2 := by omega
        go_wp2_with fail
        refine (busCopy_any b O s _ HJ.out.bus (by omega) (by omega)).mono ?_
        rintro e w4 ⟨b2, O3, rfl, hB4, hk4, hO4⟩
        go_wp2_with fail
        have hJ4 := HJ.out.quiet hk4
        refine (asBus_any b rb O O2 s _ hJ4.bus hJ4.ref (by omega)).mono ?_
        rintro e w5 ⟨rfl, hk5⟩
        go_wp2_with fail
        refine (asBus_any b2 rb O3 O2 s _ (hB4.keep hk5 (fun _ _ h => h)) (hJ4.quiet hk5).ref (by omega)).mono ?_
        rintro e w6 ⟨rfl, hk6⟩
        go_wp2_with fail
        go_ret
        exact ⟨rfl, ((hJ4.quiet hk5).quiet hk6).keeps⟩
end Go.Proofs.YtchleihlnpplkaaDoor
