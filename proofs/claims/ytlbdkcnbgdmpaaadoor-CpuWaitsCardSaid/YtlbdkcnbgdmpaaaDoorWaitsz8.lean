import Derived.Test.YtlbdkcnbgdmpaaaDoorWaitsz7
import Derived.StillTailTactics
import Derived.Test.YtlbdkcnbgdmpaaaDoorWaitsz2
import Derived.Test.YtlbdkcnbgdmpaaaDoorWaitsz3

/- CpuEnter -/
/- The walks of cpu.enter, Due. -/
namespace Go.Proofs.YtlbdkcnbgdmpaaaDoor
open Go.RowKit Go.Deep
set_option linter.unusedVariables false

set_option maxHeartbeats 1000000 in
theorem due_any (sb : Nat) (s : Cp.St) (w : World) (hS : StAt w sb s) (hs : Cp.Rng s) (d : Bool) (hd : Hid (d = Cp.due s)) :
    Calls Tryd.prog 57 #[.pointer (some ⟨sb, 0, none⟩), .int .i64 s.count] w fun e w' => e = .returned (.bool d) ∧ w = w' := by
  obtain ⟨_, _, _, _, _, s37, _, _, _, s41, s42⟩ := hS.cells
  have h3 := Cp.and3 s.status hs.status
  have hc := hs.compare
  have hdd : d = decide (s.compare ≠ 0 ∧ s.compare ≤ s.count ∧ s.status % 4 = 1) := hd.out
  have HD := Lib.hid hdd
  clear hS hs hdd hd
  unfold Cp.W at hc
  have h4 : (bits .and .u32 s.status 3 == 1) = decide (s.status % 4 = 1) := by rw [h3, Bool.eq_iff_iff, beq_iff_eq, decide_eq_true_iff]
  clear h3
  generalize s.compare = c at *
  generalize s.count = n at *
  generalize s.status = st at *
  by_cases h0 : c = 0
  · have t1 : (c != 0) = false := by simp [h0]
    have HF := Lib.hid (show d = false by rw [HD.out, decide_eq_false]; omega)
    clear h0
    go_enter Tryd.func57, Tryd.ntmps57
    go_wp2_with fail
    go_ret
    exact ⟨by rw [HF.out]; rfl, rfl⟩
  · have t1 : (c != 0) = true := by simpa using h0
    by_cases h1 : c ≤ n
    · by_cases h2 : st % 4 = 1
      · rw [decide_eq_true h2] at h4
        have HF := Lib.hid (show d = true by rw [HD.out, decide_eq_true]; exact ⟨h0, h1, h2⟩)
        clear h0 h2
        go_enter Tryd.func57, Tryd.ntmps57
        go_wp2_with fail
        go_ret
        exact ⟨by rw [HF.out]; first | rfl | (show Ending.returned (.bool (bits .and .u32 st 3 == 1)) = _; rw [H4.out]), rfl⟩
      · rw [decide_eq_false h2] at h4
        have HF := Lib.hid (show d = false by rw [HD.out, decide_eq_false]; exact fun h => h2 h.2.2)
        clear h0 h2
        go_enter Tryd.func57, Tryd.ntmps57
        go_wp2_with fail
        go_ret
        exact ⟨by rw [HF.out]; first | rfl | (show Ending.returned (.bool (bits .and .u32 st 3 == 1)) = _; rw [H4.out]), rfl⟩
    · have HF := Lib.hid (show d = false by rw [HD.out, decide_eq_false]; exact fun h => h1 h.2.1)
      clear h0
      go_enter Tryd.func57, Tryd.ntmps57
      go_wp2_with fail
      go_ret
      exact ⟨by rw [HF.out]; rfl, rfl⟩

theorem test2' (v : Int) (h : 0 ≤ v ∧ v < 4294967296) : (bits .and .u32 v 2 == 0) = decide (v / 2 % 2 = 0) := by
  rw [Cp.and2 v h, Bool.eq_iff_iff, beq_iff_eq, decide_eq_true_iff]
  omega
set_option maxRecDepth 100000 in
set_option maxHeartbeats 3000000 in
theorem enter_0 (sb : Nat) (s : Cp.St) (c : Int) (w : World) (hS : StAt w sb s) (hs : Cp.Rng s) (hc : 0 ≤ c ∧ c < 32) (h1 : s.status / 2 % 2 = 0) (hsl : s.slot = false) (r : Cp.St) (hr : Hid (r = Cp.enter s c)) :
    Calls Tryd.prog 43 #[.pointer (some ⟨sb, 0, none⟩), .int .i64 c] w fun e w' => e = .returned (.tuple #[]) ∧ StAt w' sb r ∧ Keeps (· = sb) w w' := by
  have HS := Lib.hid hS
  have HC := Lib.hid hs.cause
  have hst := hs.status
  have ht := test2' s.status hst
  have hw1 : IntKind.u32.wrap c = c := by rw [IntKind.wrap_u32']; omega
  have HO0 := Lib.hid (Cp.or2 s.status hst)
  have hpcr := hs.pc
  clear hs
  obtain ⟨_, _, s34, s35, s36, s37, s38, s39, _, _, _⟩ := hS.cells
  have f34 := hS.frozen 34
  have f35 := hS.frozen 35
  have f36 := hS.frozen 36
  have f37 := hS.frozen 37
  have f38 := hS.frozen 38
  have f39 := hS.frozen 39
  have hpc := hpcr
  clear hpcr
  rw [decide_eq_true h1] at ht
  have HR := Lib.hid (show r = { s with epc := s.pc, cause := c * 4, status := bits .or .u32 s.status 2, pc := 384, next := 388, slot := false } by
    rw [hr.out, Cp.enter, if_pos h1, hsl, HO0.out, if_pos h1, Int.mul_comm c 4]; rfl)
  rw [hsl] at s36
  have HS2 := Lib.hid ((((((HS.out.set 7 (.int .u32 s.pc) (s' := { s with epc := s.pc }) rfl rfl).set 6 (.int .u32 (c * 4)) (s' := { s with epc := s.pc, cause := c * 4 }) rfl rfl).set 5 (.int .u32 (bits .or .u32 s.status 2)) (s' := { s with epc := s.pc, cause := c * 4, status := bits .or .u32 s.status 2 }) rfl rfl).set 2 (.int .u32 384) (s' := { s with epc := s.pc, cause := c * 4, status := bits .or .u32 s.status 2, pc := 384 }) rfl rfl).set 3 (.int .u32 388) (s' := { s with epc := s.pc, cause := c * 4, status := bits .or .u32 s.status 2, pc := 384, next := 388 }) rfl rfl).set 4 (.bool false) (s' := { s with epc := s.pc, cause := c * 4, status := bits .or .u32 s.status 2, pc := 384, next := 388, slot := false }) rfl rfl)
  clear hS h1 hsl hst hr
  go_enter Tryd.func43, Tryd.ntmps43
  go_wp2_with fail
  refine bodyPost_end (results_none rfl _ _ _) rfl ⟨rfl, ?_, (Keeps.trans (Keeps.trans (Keeps.trans (Keeps.trans (Keeps.trans (Keeps.one _ _ _ _) (Keeps.one _ _ _ _) (fun _ _ h => h)) (Keeps.one _ _ _ _) (fun _ _ h => h)) (Keeps.one _ _ _ _) (fun _ _ h => h)) (Keeps.one _ _ _ _) (fun _ _ h => h)) (Keeps.one _ _ _ _) (fun _ _ h => h))⟩
  rw [HR.out]
  exact HS2.out
set_option maxRecDepth 100000 in
set_option maxHeartbeats 3000000 in
theorem enter_2 (sb : Nat) (s : Cp.St) (c : Int) (w : World) (hS : StAt w sb s) (hs : Cp.Rng s) (hc : 0 ≤ c ∧ c < 32) (h1 : ¬ s.status / 2 % 2 = 0) (r : Cp.St) (hr : Hid (r = Cp.enter s c)) :
    Calls Tryd.prog 43 #[.pointer (some ⟨sb, 0, none⟩), .int .i64 c] w fun e w' => e = .returned (.tuple #[]) ∧ StAt w' sb r ∧ Keeps (· = sb) w w' := by
  have HS := Lib.hid hS
  have HC := Lib.hid hs.cause
  have hst := hs.status
  have ht := test2' s.status hst
  have hw1 : IntKind.u32.wrap c = c := by rw [IntKind.wrap_u32']; omega
  have HO0 := Lib.hid (Cp.or2 s.status hst)
  have hpcr := hs.pc
  clear hs
  obtain ⟨_, _, s34, s35, s36, s37, s38, s39, _, _, _⟩ := hS.cells
  have f34 := hS.frozen 34
  have f35 := hS.frozen 35
  have f36 := hS.frozen 36
  have f37 := hS.frozen 37
  have f38 := hS.frozen 38
  have f39 := hS.frozen 39
  have hpc := hpcr
  clear hpcr
  rw [decide_eq_false h1] at ht
  have HR := Lib.hid (show r = { s with cause := bits .or .u32 (bits .andNot .u32 s.cause 124) (c * 4), status := bits .or .u32 s.status 2, pc := 384, next := 388, slot := false } by
    rw [hr.out, Cp.enter, if_neg h1, HO0.out, if_neg h1, Int.mul_comm c 4, Cp.causeB s.cause c HC.out hc])
  have HS2 := Lib.hid (((((HS.out.set 6 (.int .u32 (bits .or .u32 (bits .andNot .u32 s.cause 124) (c * 4))) (s' := { s with cause := bits .or .u32 (bits .andNot .u32 s.cause 124) (c * 4) }) rfl rfl).set 5 (.int .u32 (bits .or .u32 s.status 2)) (s' := { s with cause := bits .or .u32 (bits .andNot .u32 s.cause 124) (c * 4), status := bits .or .u32 s.status 2 }) rfl rfl).set 2 (.int .u32 384) (s' := { s with cause := bits .or .u32 (bits .andNot .u32 s.cause 124) (c * 4), status := bits .or .u32 s.status 2, pc := 384 }) rfl rfl).set 3 (.int .u32 388) (s' := { s with cause := bits .or .u32 (bits .andNot .u32 s.cause 124) (c * 4), status := bits .or .u32 s.status 2, pc := 384, next := 388 }) rfl rfl).set 4 (.bool false) (s' := { s with cause := bits .or .u32 (bits .andNot .u32 s.cause 124) (c * 4), status := bits .or .u32 s.status 2, pc := 384, next := 388, slot := false }) rfl rfl)
  clear hS h1 hst hr
  go_enter Tryd.func43, Tryd.ntmps43
  go_wp2_with fail
  refine bodyPost_end (results_none rfl _ _ _) rfl ⟨rfl, ?_, (Keeps.trans (Keeps.trans (Keeps.trans (Keeps.trans (Keeps.one _ _ _ _) (Keeps.one _ _ _ _) (fun _ _ h => h)) (Keeps.one _ _ _ _) (fun _ _ h => h)) (Keeps.one _ _ _ _) (fun _ _ h => h)) (Keeps.one _ _ _ _) (fun _ _ h => h))⟩
  rw [HR.out]
  exact HS2.out
end Go.Proofs.YtlbdkcnbgdmpaaaDoor

/- CpuMem -/
/- The walks of cpu.Size, load, store. -/
namespace Go.Proofs.YtlbdkcnbgdmpaaaDoor
open Go.RowKit Go.Deep
set_option linter.unusedVariables false

theorem size_any (op : Nat) (h : 46 ≤ op ∧ op ≤ 53) (w : World) :
    Calls Tryd.prog 86 #[.int .i64 op] w fun e w' => e = .returned (.tuple #[.int .i64 (Cp.size op), .bool (Cp.isSg op)]) ∧ w = w' := by
  have hops : op = 46 ∨ op = 47 ∨ op = 48 ∨ op = 49 ∨ op = 50 ∨ op = 51 ∨ op = 52 ∨ op = 53 := by omega
  rcases hops with rfl | rfl | rfl | rfl | rfl | rfl | rfl | rfl
  all_goals
    go_enter Tryd.func86, Tryd.ntmps86
    go_wp2
    go_ret2
    exact ⟨rfl, rfl⟩
/-- what a load or a store leaves -/
structure MemOk (w w' : World) (sb b : Nat) (O : Nat → Prop) (r : Int × Cp.St × Sb) (e : Ending) : Prop where
  e : e = .returned (.int .i64 r.1)
  st : StAt w' sb r.2.1
  k : ∃ O', BInv b O' w' r.2.2 ∧ Grew O O' w ∧ Keeps (fun k => k = sb ∨ O k) w w'
theorem Grew.of2 {O O' : Nat → Prop} {w wc : World} (h : Grew O O' wc) (hs : w.heap.size ≤ wc.heap.size) : Grew O O' w := fun k hk => by
  rcases h k hk with h | h
  · exact .inl h
  · exact .inr (Nat.le_trans hs h)
theorem size_wf (op : Nat) : (Lit.int .i64 (Cp.size op)).wf = true := by
  unfold Cp.size
  split <;> decide

set_option maxRecDepth 100000 in
set_option maxHeartbeats 3000000 in
theorem load_any (x sb b : Nat) (O : Nat → Prop) (i : Cd.Ins) (nx : Int) (br : Bool) (s : Cp.St) (B : Sb) (w : World) (ea : Nat → Addr) (E : Errs3 w ea) (X : XAt w x sb b i nx br) (hS : StAt w sb s) (hB : BInv b O w B) (hs : Cp.Rng s) (hi : Cd.Ok i) (hop : 46 ≤ i.op ∧ i.op ≤ 50) (hn : B.tn < 1000000)
    (hxs : x ≠ sb) (hOx : ¬ O x) (hOs : ¬ O sb) (r : Int × Cp.St × Sb) (hr : Hid (r = Cp.load i s B)) :
    Calls Tryd.prog 73 #[.pointer (some ⟨x, 0, none⟩)] w fun e w' => MemOk w w' sb b O r e := by
  obtain ⟨op, S, T, D, imm⟩ := i
  obtain ⟨c0, c1, c2, c3, c4, c5, c6, _, _⟩ := X.cells
  have s42 := hS.cells.2.2.2.2.2.2.2.2.2.2
  have hS5 : 0 ≤ S ∧ S < 32 := hi.S
  have hT5 : 0 ≤ T ∧ T < 32 := hi.T
  have him : 0 ≤ imm ∧ imm < 4294967296 := by have := hi.imm; simp only at this; omega
  have ha : 0 ≤ s.R S.toNat ∧ s.R S.toNat < 4294967296 := hs.R _ (by omega)
  have hop2 : 46 ≤ op ∧ op ≤ 53 := by simp only at hop; omega
  have hW := wide_rng imm
  have HR : Hid (r = Cp.load ⟨op, S, T, D, imm⟩ s B) := hr
  have HADR : Hid (Cp.addr ⟨op, S, T, D, imm⟩ s = Cp.u (s.R S.toNat + Wd.wide imm 16 true)) := Lib.hid rfl
  have HS := Lib.hid hS
  have HX := Lib.hid X
  have HB := Lib.hid hB
  have HE := Lib.hid E
  clear X hi hs hr hS hB E hop
  generalize hav : s.R S.toNat = a at *
  generalize hnv : Wd.wide imm 16 true = n at *
  have HAV := Lib.hid hav
  have HNV := Lib.hid hnv
  clear hav hnv
  go_enter Tryd.func73, Tryd.ntmps73
  go_wp2_with fail
  refine (v_any x sb s S _ c0 HS.out hS5).mono ?_
  rw [HAV.out]
  rintro e w' ⟨rfl, rfl⟩
  go_wp2_with fail
  refine (imm_any x imm _ c6 him).mono ?_
  rw [HNV.out]
  rintro e w' ⟨rfl, rfl⟩
  go_wp2_with fail
  refine (size_any op hop2 _).mono ?_
  rintro e w' ⟨rfl, rfl⟩
  have hu : Cp.W (Cp.u (a + n)) := Cp.W_u _
  have HU : Hid ((a + n) % 4294967296 = Cp.u (a + n)) := Lib.hid rfl
  have HU2 : Hid (IntKind.u32.wrap (a + n) = Cp.u (a + n)) := Lib.hid rfl
  go_upto_region 3 with fail
  first | rw [HU.out] | rw [HU2.out] | skip
  generalize Cp.u (a + n) = ad at *
  generalize hsz : Cp.size op = sz at *
  generalize hsg : Cp.isSg op = sgn at *
  have HSZ := Lib.hid hsz
  have HSG := Lib.hid hsg
  clear hsz hsg
  have HEd := Lib.hid (HE.out.keep ((Keeps.refl (fun _ => False) w).drew) ⟨fun h => h, fun h => h, fun h => h⟩)
  have HBd := Lib.hid (HB.out.keep ((Keeps.refl (fun _ => False) w).drew) (fun _ _ h => h))
  go_region_with (go_at_call 87; refine (bus_load b O B ad sz s.count sgn w.drew ea HEd.out HBd.out hn hu).mono ?_; rintro e w2 ⟨rfl, O', hB2, hk2, hg2⟩)
  all_goals (
    have HB2 := Lib.hid hB2
    have HK2 := Lib.hid (Keeps.trans ((Keeps.refl (fun k => k = sb ∨ O k) w).drew) hk2 (fun k _ h => .inr h))
    have HG2 := Lib.hid (Grew.of2 (w := w) hg2 (Nat.le_refl _))
    have HS2 := Lib.hid (HS.out.keep (w := w.drew) hk2 hOs)
    have HX2 := Lib.hid (HX.out.keep (w := w.drew) hk2 hOx)
    have HLD := Lib.hid (show r = if stC ad sz ≠ 0 then (4, { s with bad := ad }, B) else (-1, Cp.setR s T (ldV ad sz s.count sgn B), stepL ad sz s.count B) by
      rw [HR.out, Cp.load, HADR.out, HSZ.out, HSG.out])
    have hO' : ¬ O' sb := fun h => by
      rcases HG2.out sb h with h | h
      · exact hOs h
      · have := HS.out.lt; omega
    clear hB2 hk2 hg2 c0 c1 c2 c3 c4 c5 c6 s42
    obtain ⟨c0, c1, c2, c3, c4, c5, c6, _, _⟩ := HX2.out.cells
    have s40 := HS2.out.cells.2.2.2.2.2.2.2.2.1
    have f40 := HS2.out.frozen 40
    generalize ldV ad sz s.count sgn B = y at *
    generalize herr : errOf ea (stC ad sz) = er at *
    by_cases hc : stC ad sz = 0
    · rw [hc, show errOf ea 0 = .nilIface from rfl] at herr
      subst herr
      have HL := Lib.hid (show r = (-1, Cp.setR s T y, stepL ad sz s.count B) by rw [HLD.out, if_neg (by simpa using hc)])
      clear hc
      go_wp2_with fail
      refine (set_any x sb s T y w2 c0 HS2.out hT5).mono ?_
      rintro e w3 ⟨rfl, hS3, hk3⟩
      have HS3 := Lib.hid hS3
      have HK3 := Lib.hid hk3
      clear hS3 hk3
      go_wp2_with fail
      go_ret
      refine ⟨by rw [HL.out]; rfl, by rw [HL.out]; exact HS3.out, O', ?_, HG2.out, HK2.out.trans HK3.out (fun k _ h => .inl h)⟩
      rw [HL.out]
      exact HB2.out.keep HK3.out (fun k hk e => hO' (e ▸ hk))
    · rw [errOf_ne hc] at herr
      subst herr
      have HL := Lib.hid (show r = (4, { s with bad := ad }, B) by rw [HLD.out, if_pos hc])
      have HST := Lib.hid (show stepL ad sz s.count B = B from if_pos hc)
      have HSET := Lib.hid (HS2.out.set 8 (.int .u32 ad) (s' := { s with bad := ad }) rfl rfl)
      unfold errV
      generalize ea (stC ad sz) = er at *
      clear hc
      go_wp2_with fail
      go_ret
      refine ⟨by rw [HL.out]; rfl, by rw [HL.out]; exact HSET.out, O', ?_, HG2.out, HK2.out.trans (Keeps.one _ _ _ _) (fun k _ h => .inl h)⟩
      rw [HL.out, ← HST.out]
      exact HB2.out.keep (Keeps.one _ _ _ _) (fun k hk e => hO' (e ▸ hk)))
end Go.Proofs.YtlbdkcnbgdmpaaaDoor

/- CpuBr -/
/- The walks of cpu.branch, one an operation: what they leave. -/
namespace Go.Proofs.YtlbdkcnbgdmpaaaDoor
open Go.RowKit Go.Deep
set_option linter.unusedVariables false

theorem XAt.setNext {w : World} {x sb b : Nat} {i : Cd.Ins} {nx : Int} {br : Bool} (h : XAt w x sb b i nx br) (v v' : Int) (hv : v = v') : XAt (w.setCell ⟨x, 7, none⟩ (.int .u32 v)) x sb b i v' br := by
  subst hv
  exact set_block h 7 (.int .u32 v)
theorem XAt.setSlot {w : World} {x sb b : Nat} {i : Cd.Ins} {nx : Int} {br : Bool} (h : XAt w x sb b i nx br) : XAt (w.setCell ⟨x, 8, none⟩ (.bool true)) x sb b i nx true := set_block h 8 (.bool true)
/-- what a branch leaves -/
structure BrOk (w w' : World) (x sb b : Nat) (i : Cd.Ins) (r : Int × Cp.St × Int × Bool) (e : Ending) : Prop where
  e : e = .returned (.int .i64 r.1)
  st : StAt w' sb r.2.1
  xa : XAt w' x sb b i r.2.2.1 r.2.2.2
  k : Keeps (fun k => k = sb ∨ k = x) w w'
set_option maxHeartbeats 1000000 in
theorem branch_slot (x sb b : Nat) (i : Cd.Ins) (nx : Int) (br : Bool) (s : Cp.St) (w : World) (X : XAt w x sb b i nx br) (hS : StAt w sb s) (hsl : s.slot = true) :
    Calls Tryd.prog 72 #[.pointer (some ⟨x, 0, none⟩)] w fun e w' => BrOk w w' x sb b i (10, s, nx, br) e := by
  have HS := Lib.hid hS
  have HX := Lib.hid X
  obtain ⟨c0, _, _, _, _, _, _, _, _⟩ := X.cells
  have c36 := hS.cells.2.2.2.2.1
  rw [hsl] at c36
  clear X hS
  go_enter Tryd.func72, Tryd.ntmps72
  go_wp2_with fail
  go_ret
  exact ⟨rfl, HS.out, HX.out, Keeps.refl _ _⟩
end Go.Proofs.YtlbdkcnbgdmpaaaDoor

/- CpuOne -/
/- The walk of cpu.one, over what do leaves. -/
namespace Go.Proofs.YtlbdkcnbgdmpaaaDoor
open Go.RowKit Go.Deep
set_option linter.unusedVariables false

/-- what an instruction leaves -/
structure DoOk (w w' : World) (x sb b : Nat) (O : Nat → Prop) (i : Cd.Ins) (r : Cp.Out) (e : Ending) : Prop where
  e : e = .returned (.int .i64 r.e)
  st : StAt w' sb r.s
  xa : XAt w' x sb b i r.nx r.br
  k : ∃ O', BInv b O' w' r.b ∧ Grew O O' w ∧ Keeps (fun k => k = sb ∨ k = x ∨ O k) w w'
/-- what a step leaves -/
structure StepOk (w w' : World) (sb b : Nat) (O : Nat → Prop) (r : Int × Cp.St × Sb) (e : Ending) : Prop where
  e : e = .returned (.int .i64 r.1)
  st : StAt w' sb r.2.1
  k : ∃ O', BInv b O' w' r.2.2 ∧ Grew O O' w ∧ Keeps (fun k => k = sb ∨ O k) w w'
theorem ramLoad_at {w : World} {b : Nat} {O : Nat → Prop} {B : Sb} (h : BInv b O w B) : ∃ r pb pw ph cp, w.cell? ⟨b, 0, none⟩ = some (.pointer (some ⟨r, 0, none⟩)) ∧ RamAt w r pb pw ph cp B.m := by
  obtain ⟨r, pb, pw, ph, cp, ov, tv, h⟩ := h
  exact ⟨r, pb, pw, ph, _, by simp [World.cell?, h.bus.box], h.ram⟩
theorem ram_q (b r : Nat) (w : World) (d : Nat) (hb : w.cell? ⟨b, 0, none⟩ = some (.pointer (some ⟨r, 0, none⟩))) :
    Calls Tryd.prog 24 #[.pointer (some ⟨b, 0, none⟩)] (w.drewN d) fun e w'' => e = .returned (.pointer (some ⟨r, 0, none⟩)) ∧ ∃ m, w'' = w.drewN m := quiet_eq (ramOf_any b r (w.drewN d) hb)
theorem load4_q (r pb pw ph cp : Nat) (m : Nat → Int) (a v : Int) (w : World) (d : Nat) (R : RamAt w r pb pw ph cp m) (h0 : 0 ≤ a) (h : rightC a 4 = 0) (hv : be m a.toNat 4 = v) :
    Calls Tryd.prog 45 #[.pointer (some ⟨r, 0, none⟩), .int .u32 a, .int .i64 4, .bool false] (w.drewN d) fun e w'' => e = .returned (.tuple #[.int .u32 v, .nilIface]) ∧ ∃ m, w'' = w.drewN m := by
  have h16 := (rightC_ok h).2.2
  have hw := wide_be (m := m) (a := a.toNat) (n := 4) (by omega) (fun i hi => R.rng _ (by have := (rightC_ok h).2.1; omega))
  have := load_okI r pb pw ph cp m a 4 false (w.drewN d) ⟨R.box, R.bytes, R.room, R.rng, R.apart⟩ h0 h
  rw [show Wd.wide (be m a.toNat (4 : Int).toNat) (8 * 4) false = v by rw [← hv]; exact hw] at this
  exact quiet_eq this
theorem loadbad_q (r : Nat) (a : Int) (w : World) (d : Nat) (ea : Nat → Addr) (E : Errs3 w ea) (ha : 0 ≤ a ∧ a < 4294967296) (h : rightC a 4 ≠ 0) (er : Value) (he : errV ea (rightC a 4) = er) :
    Calls Tryd.prog 45 #[.pointer (some ⟨r, 0, none⟩), .int .u32 a, .int .i64 4, .bool false] (w.drewN d) fun e w'' => e = .returned (.tuple #[.int .u32 0, er]) ∧ ∃ m, w'' = w.drewN m := by
  subst he
  exact quiet_eq (load_bad ⟨r, 0, none⟩ a 4 false (w.drewN d) ea ⟨E.shape, E.align, E.far⟩ ha h)

set_option maxRecDepth 100000 in
set_option maxHeartbeats 3000000 in
theorem one_due (sb b : Nat) (s : Cp.St) (w : World) (hS : StAt w sb s) (hs : Cp.Rng s) (hd : Cp.due s = true) :
    Calls Tryd.prog 42 #[.pointer (some ⟨sb, 0, none⟩), .pointer (some ⟨b, 0, none⟩)] w fun e w' => e = .returned (.int .i64 0) ∧ w = w' := by
  have HS := Lib.hid hS
  have HG := Lib.hid hs
  have s42 := hS.cells.2.2.2.2.2.2.2.2.2.2
  clear hS hs
  go_enter Tryd.func42, Tryd.ntmps42
  go_wp2_with fail
  refine (due_any sb s _ HS.out HG.out true (Lib.hid hd.symm)).mono ?_
  rintro e w' ⟨rfl, rfl⟩
  go_wp2_with fail
  go_ret
  exact ⟨rfl, rfl⟩
set_option maxRecDepth 100000 in
set_option maxHeartbeats 3000000 in
theorem one_bad (sb b : Nat) (O : Nat → Prop) (s : Cp.St) (B : Sb) (w : World) (ea : Nat → Addr) (E : Errs3 w ea) (hS : StAt w sb s) (hB : BInv b O w B) (hs : Cp.Rng s) (hOs : ¬ O sb) (hd : Cp.due s = false) (hp : rightC s.pc 4 ≠ 0) :
    Calls Tryd.prog 42 #[.pointer (some ⟨sb, 0, none⟩), .pointer (some ⟨b, 0, none⟩)] w fun e w' => StepOk w w' sb b O (4, { s with bad := s.pc }, B) e := by
  have HS := Lib.hid hS
  have HG := Lib.hid hs
  have HB := Lib.hid hB
  have HE := Lib.hid E
  obtain ⟨r, pb, pw, ph, cp, hb0, hR⟩ := ramLoad_at hB
  obtain ⟨_, _, s34, _, _, _, _, _, s40, _, s42⟩ := hS.cells
  have f40 := hS.frozen 40
  have HP := Lib.hid hp
  have hpc := hs.pc
  have HSET := Lib.hid (hS.set 8 (.int .u32 s.pc) (s' := { s with bad := s.pc }) rfl rfl)
  clear hS hs hB E hR hp
  go_enter Tryd.func42, Tryd.ntmps42
  go_wp2_with fail
  refine (due_any sb s _ HS.out HG.out false (Lib.hid hd.symm)).mono ?_
  rintro e w' ⟨rfl, rfl⟩
  go_upto_region 3 with fail
  obtain ⟨er, HER, her⟩ : ∃ er : Addr, Hid (errV ea (rightC s.pc 4) = .iface 173 (.pointer (some er))) ∧ True := ⟨_, Lib.hid rfl, trivial⟩
  go_quiet (first | (go_at_call 24; exact ram_q b r _ _ hb0) | (go_at_call 45; exact loadbad_q r s.pc _ _ ea HE.out hpc HP.out _ HER.out))
  go_wp2_with fail
  go_ret
  exact ⟨rfl, HSET.out, O, HB.out.keep (Keeps.trans ((Keeps.refl (· = sb) w).drewN nq) (Keeps.one _ _ _ _) (fun _ _ h => h)) (fun k hk e => hOs (e ▸ hk)), Grew.refl _ _, Keeps.trans ((Keeps.refl (fun k => k = sb ∨ O k) w).drewN nq) (Keeps.one _ _ _ _) (fun k _ h => .inl h)⟩
end Go.Proofs.YtlbdkcnbgdmpaaaDoor

/- CpuIns -/
/- The walk of cpu.one at an instruction, over what do leaves. -/
namespace Go.Proofs.YtlbdkcnbgdmpaaaDoor
open Go.RowKit Go.Deep
set_option linter.unusedVariables false

/-- do's contract at an instruction -/
def DoGoes (sb b : Nat) (O : Nat → Prop) (s : Cp.St) (B : Sb) (ea : Nat → Addr) (i : Cd.Ins) : Prop :=
  ∀ (x : Nat) (w : World), Errs3 w ea → XAt w x sb b i (Cp.u (s.next + 4)) false → StAt w sb s → BInv b O w B → x ≠ sb → ¬ O x →
    Calls Tryd.prog 58 #[.pointer (some ⟨x, 0, none⟩)] w fun e w' => DoOk w w' x sb b O i (Cp.doIt i s B (Cp.u (s.next + 4)) false) e
theorem StAt.drew1 {w : World} {sb : Nat} {s : Cp.St} (h : StAt w sb s) : StAt w.drew sb s := h
set_option maxRecDepth 100000 in
set_option maxHeartbeats 3000000 in
theorem one_ins (sb b : Nat) (O : Nat → Prop) (s : Cp.St) (B : Sb) (w : World) (ea : Nat → Addr) (E : Errs3 w ea) (hS : StAt w sb s) (hB : BInv b O w B) (hs : Cp.Rng s) (hOs : ¬ O sb) (hd : Cp.due s = false) (hp : rightC s.pc 4 = 0)
    (v : Int) (hv : be B.m s.pc.toNat 4 = v) (hv2 : 0 ≤ v ∧ v < 4294967296) (i : Cd.Ins) (hi : Cd.decOf v = i) (hdo : DoGoes sb b O s B ea i) (r : Int × Cp.St × Sb) (hr : Hid (r = Cp.ins i s B)) :
    Calls Tryd.prog 42 #[.pointer (some ⟨sb, 0, none⟩), .pointer (some ⟨b, 0, none⟩)] w fun e w' => StepOk w w' sb b O r e := by
  have HS := Lib.hid hS
  have HG := Lib.hid hs
  have HB := Lib.hid hB
  have HE := Lib.hid E
  have HD := Lib.hid hdo
  have HI := Lib.hid hi
  have HV := Lib.hid hv
  obtain ⟨q, pb, pw, ph, cp, hb0, hR⟩ := ramLoad_at hB
  have HRM := Lib.hid hR
  obtain ⟨_, _, s34, s35, _, _, _, _, _, _, s42⟩ := hS.cells
  have HP := Lib.hid hp
  have hpc := hs.pc
  clear hS hs hB E hR hp hdo hi hv
  go_enter Tryd.func42, Tryd.ntmps42
  go_wp2_with fail
  refine (due_any sb s _ HS.out HG.out false (Lib.hid hd.symm)).mono ?_
  rintro e w' ⟨rfl, rfl⟩
  go_upto_region 3 with fail
  go_quiet (first | (go_at_call 24; exact ram_q b q _ _ hb0) | (go_at_call 45; exact load4_q q pb pw ph cp B.m s.pc v _ _ HRM.out hpc.1 HP.out HV.out))
  have HS1 := Lib.hid (show StAt (w.drewN nq) sb s from HS.out)
  have HB1 := Lib.hid (HB.out.keep ((Keeps.refl (fun _ => False) w).drewN nq) (fun _ _ h => h))
  have HE1 := Lib.hid (HE.out.keep ((Keeps.refl (fun _ => False) w).drewN nq) ⟨fun h => h, fun h => h, fun h => h⟩)
  have HK1 := Lib.hid ((Keeps.refl (fun _ => False) w).drewN nq)
  clear hb0 s34 s35 s42
  generalize w.drewN nq = w1 at *
  go_upto_region 7 with fail
  have s35 := HS1.out.cells.2.2.2.1
  have hnw : IntKind.u32.wrap (s.next + 4) = Cp.u (s.next + 4) := rfl
  have hnw2 : (s.next + 4) % 4294967296 = Cp.u (s.next + 4) := rfl
  have HU := Lib.hid hnw2
  clear hnw hnw2
  obtain ⟨op, S, T, D, imm⟩ := i
  have hdec : ∀ wc, Calls Tryd.prog 46 #[.int .u32 v] wc fun e w' => e = .returned (.agg #[.int .i64 op, .int .i64 S, .int .i64 T, .int .i64 D, .int .u32 imm]) ∧ Keeps (fun _ => False) wc w' := by
    intro wc
    have := decode_any v hv2 wc
    rw [HI.out] at this
    exact this
  have HDEC := Lib.hid hdec
  clear hdec
  go_region_with (go_at_call 46; refine (HDEC.out _).mono ?_; rintro e w2 ⟨rfl, hk2⟩; have s35b := (HS1.out.keep (Keeps.trans ((Keeps.refl (fun _ => False) w1).drew) hk2 (fun _ _ h => h)) (fun h => h)).cells.2.2.2.1)
  all_goals (
    have hk12 := Keeps.trans ((Keeps.refl (fun _ => False) w1).drew) hk2 (fun _ _ h => h)
    have HX := Lib.hid (show XAt (w2.alloc (.cells #[.pointer (some ⟨sb, 0, none⟩), .pointer (some ⟨b, 0, none⟩), .int .i64 op, .int .i64 S, .int .i64 T, .int .i64 D, .int .u32 imm, .int .u32 (IntKind.u32.wrap (s.next + 4)), .bool false] 119)) w2.heap.size sb b ⟨op, S, T, D, imm⟩ (Cp.u (s.next + 4)) false from blk_alloc_new w2 (.cells #[.pointer (some ⟨sb, 0, none⟩), .pointer (some ⟨b, 0, none⟩), .int .i64 op, .int .i64 S, .int .i64 T, .int .i64 D, .int .u32 imm, .int .u32 (IntKind.u32.wrap (s.next + 4)), .bool false] 119))
    have hk13 := hk12.alloc (.cells #[.pointer (some ⟨sb, 0, none⟩), .pointer (some ⟨b, 0, none⟩), .int .i64 op, .int .i64 S, .int .i64 T, .int .i64 D, .int .u32 imm, .int .u32 (IntKind.u32.wrap (s.next + 4)), .bool false] 119)
    have hxs : w2.heap.size ≠ sb := by have := HS1.out.lt; have := hk12.size; omega
    have hOx : ¬ O w2.heap.size := fun h => by have := HB1.out.lt _ h; have := hk12.size; omega
    have HLX := Lib.hid (show w.heap.size ≤ w2.heap.size from Nat.le_trans HK1.out.size hk12.size)
    have HS3 := Lib.hid (HS1.out.keep hk13 (fun h => h))
    have HB3 := Lib.hid (HB1.out.keep hk13 (fun _ _ h => h))
    have HE3 := Lib.hid (HE1.out.keep hk13 ⟨fun h => h, fun h => h, fun h => h⟩)
    have HK3 := Lib.hid (HK1.out.trans hk13 (fun _ _ h => h))
    clear hk12 hk13 hk2 s35 s35b
    generalize w2.alloc (.cells #[.pointer (some ⟨sb, 0, none⟩), .pointer (some ⟨b, 0, none⟩), .int .i64 op, .int .i64 S, .int .i64 T, .int .i64 D, .int .u32 imm, .int .u32 (IntKind.u32.wrap (s.next + 4)), .bool false] 119) = w3 at *
    generalize w2.heap.size = x at *
    go_wp2_with fail
    refine (HD.out x w3 HE3.out HX.out HS3.out HB3.out hxs hOx).mono ?_
    intro e w4 h
    have HR : Hid (r = ((Cp.doIt ⟨op, S, T, D, imm⟩ s B (Cp.u (s.next + 4)) false).e, if (Cp.doIt ⟨op, S, T, D, imm⟩ s B (Cp.u (s.next + 4)) false).e = -1 ∧ op ≠ 45 then { (Cp.doIt ⟨op, S, T, D, imm⟩ s B (Cp.u (s.next + 4)) false).s with pc := (Cp.doIt ⟨op, S, T, D, imm⟩ s B (Cp.u (s.next + 4)) false).s.next, next := (Cp.doIt ⟨op, S, T, D, imm⟩ s B (Cp.u (s.next + 4)) false).nx, slot := (Cp.doIt ⟨op, S, T, D, imm⟩ s B (Cp.u (s.next + 4)) false).br } else (Cp.doIt ⟨op, S, T, D, imm⟩ s B (Cp.u (s.next + 4)) false).s, (Cp.doIt ⟨op, S, T, D, imm⟩ s B (Cp.u (s.next + 4)) false).b)) := hr
    generalize Cp.doIt ⟨op, S, T, D, imm⟩ s B (Cp.u (s.next + 4)) false = o at *
    have H := Lib.hid h
    obtain rfl := h.e
    obtain ⟨O', hB4, hG4, hK4⟩ := h.k
    have HB4 := Lib.hid hB4
    have HG4 := Lib.hid (Grew.of2 hG4 HK3.out.size)
    have HK4 := Lib.hid (show Keeps (fun k => k = sb ∨ O k) w w4 from Keeps.trans (HK3.out.mono (fun _ _ h => h.elim)) hK4 (fun k hk h => by
      rcases h with h | h | h
      · exact .inl h
      · have := HLX.out; omega
      · exact .inr h))
    have hO' : ¬ O' sb := fun h2 => by
      rcases hG4 sb h2 with h3 | h3
      · exact hOs h3
      · have := HS3.out.lt; omega
    obtain ⟨_, _, c2, _, _, _, _, c7, c8⟩ := h.xa.cells
    clear h hB4 hG4 hK4
    by_cases he : o.e = -1
    · by_cases h45 : op = 45
      · have t1 : ((op : Int) != 45) = false := by simp [h45]
        have HRR := Lib.hid (show r = (-1, o.s, o.b) by rw [HR.out, if_neg (fun h => h.2 h45), he])
        rw [he]
        clear h45
        go_wp2_with fail
        go_ret
        exact ⟨by rw [HRR.out]; rfl, by rw [HRR.out]; exact H.out.st, O', by rw [HRR.out]; exact HB4.out, HG4.out, HK4.out⟩
      · have t1 : ((op : Int) != 45) = true := by simp; omega
        have HRR := Lib.hid (show r = (-1, { o.s with pc := o.s.next, next := o.nx, slot := o.br }, o.b) by rw [HR.out, if_pos ⟨he, h45⟩, he])
        rw [he]
        have HSET := Lib.hid (((H.out.st.set 2 (.int .u32 o.s.next) (s' := { o.s with pc := o.s.next }) rfl rfl).set 3 (.int .u32 o.nx) (s' := { o.s with pc := o.s.next, next := o.nx }) rfl rfl).set 4 (.bool o.br) (s' := { o.s with pc := o.s.next, next := o.nx, slot := o.br }) rfl rfl)
        obtain ⟨_, _, s34, s35, s36, _, _, _, _, _, _⟩ := H.out.st.cells
        have f34 := H.out.st.frozen 34
        have f35 := H.out.st.frozen 35
        have f36 := H.out.st.frozen 36
        clear h45 he hxs hOx
        have hxs : x ≠ sb := by have := HLX.out; have := HS.out.lt; omega
        go_wp2_with fail
        go_region
        all_goals (
          go_wp2_with fail
          go_ret
          refine ⟨by rw [HRR.out]; rfl, ?_, O', ?_, HG4.out, ?_⟩
          · rw [HRR.out]; exact StAt.drew1 HSET.out
          · rw [HRR.out]
            exact (HB4.out.keep (Keeps.trans (Keeps.trans (Keeps.one _ _ _ _) (Keeps.one _ _ _ _) (fun _ _ h => h)) (Keeps.one _ _ _ _) (fun _ _ h => h)).drew (fun k hk e => hO' (e ▸ hk)))
          · exact (Keeps.trans HK4.out (Keeps.trans (Keeps.trans (Keeps.one _ sb _ _) (Keeps.one _ _ _ _) (fun _ _ h => h)) (Keeps.one _ _ _ _) (fun _ _ h => h)) (fun k _ h => .inl h)).drew)
    · have t1 : (o.e == -1) = false := by simpa using he
      have HRR := Lib.hid (show r = (o.e, o.s, o.b) by rw [HR.out, if_neg (fun h => he h.1)])
      clear he
      go_wp2_with fail
      go_ret
      exact ⟨by rw [HRR.out]; rfl, by rw [HRR.out]; exact H.out.st, O', by rw [HRR.out]; exact HB4.out, HG4.out, HK4.out⟩)
end Go.Proofs.YtlbdkcnbgdmpaaaDoor

/- CpuEnter1 -/
/- The walk of cpu.enter in a slot. -/
namespace Go.Proofs.YtlbdkcnbgdmpaaaDoor
open Go.RowKit Go.Deep
set_option linter.unusedVariables false

theorem StAt.drew0 {w : World} {sb : Nat} {s : Cp.St} (h : StAt w sb s) : StAt w.drew sb s := h
set_option maxRecDepth 100000 in
set_option maxHeartbeats 3000000 in
theorem enter_1 (sb : Nat) (s : Cp.St) (c : Int) (w : World) (hS : StAt w sb s) (hs : Cp.Rng s) (hc : 0 ≤ c ∧ c < 32) (h1 : s.status / 2 % 2 = 0) (hsl : s.slot = true) (r : Cp.St) (hr : Hid (r = Cp.enter s c)) :
    Calls Tryd.prog 43 #[.pointer (some ⟨sb, 0, none⟩), .int .i64 c] w fun e w' => e = .returned (.tuple #[]) ∧ StAt w' sb r ∧ Keeps (· = sb) w w' := by
  have HS := Lib.hid hS
  have HC := Lib.hid hs.cause
  have hst := hs.status
  have ht := test2' s.status hst
  have hw1 : IntKind.u32.wrap c = c := by rw [IntKind.wrap_u32']; omega
  have HO0 := Lib.hid (Cp.or2 s.status hst)
  have hpcr := hs.pc
  clear hs
  obtain ⟨_, _, s34, s35, s36, s37, s38, s39, _, _, _⟩ := hS.cells
  have f34 := hS.frozen 34
  have f35 := hS.frozen 35
  have f36 := hS.frozen 36
  have f37 := hS.frozen 37
  have f38 := hS.frozen 38
  have f39 := hS.frozen 39
  have hpc := hpcr
  clear hpcr
  rw [decide_eq_true h1] at ht
  have HR := Lib.hid (show r = { s with epc := Cp.u (s.pc - 4), cause := bits .or .u32 (c * 4) 2147483648, status := bits .or .u32 s.status 2, pc := 384, next := 388, slot := false } by
    rw [hr.out, Cp.enter, if_pos h1, hsl, HO0.out, if_pos h1, Int.mul_comm c 4, Cp.cause31 c hc]; rfl)
  rw [hsl] at s36
  have HS2 := Lib.hid ((((((((HS.out.set 7 (.int .u32 s.pc) (s' := { s with epc := s.pc }) rfl rfl).set 6 (.int .u32 (c * 4)) (s' := { s with epc := s.pc, cause := c * 4 }) rfl rfl).set 7 (.int .u32 (Cp.u (s.pc - 4))) (s' := { s with epc := Cp.u (s.pc - 4), cause := c * 4 }) rfl rfl).set 6 (.int .u32 (bits .or .u32 (c * 4) 2147483648)) (s' := { s with epc := Cp.u (s.pc - 4), cause := bits .or .u32 (c * 4) 2147483648 }) rfl rfl).set 5 (.int .u32 (bits .or .u32 s.status 2)) (s' := { s with epc := Cp.u (s.pc - 4), cause := bits .or .u32 (c * 4) 2147483648, status := bits .or .u32 s.status 2 }) rfl rfl).set 2 (.int .u32 384) (s' := { s with epc := Cp.u (s.pc - 4), cause := bits .or .u32 (c * 4) 2147483648, status := bits .or .u32 s.status 2, pc := 384 }) rfl rfl).set 3 (.int .u32 388) (s' := { s with epc := Cp.u (s.pc - 4), cause := bits .or .u32 (c * 4) 2147483648, status := bits .or .u32 s.status 2, pc := 384, next := 388 }) rfl rfl).set 4 (.bool false) (s' := { s with epc := Cp.u (s.pc - 4), cause := bits .or .u32 (c * 4) 2147483648, status := bits .or .u32 s.status 2, pc := 384, next := 388, slot := false }) rfl rfl)
  clear hS h1 hsl hst hr
  go_enter Tryd.func43, Tryd.ntmps43
  go_wp2_with fail
  go_region
  all_goals (
    go_wp2_with fail
    refine bodyPost_end (results_none rfl _ _ _) rfl ⟨rfl, ?_, (Keeps.trans (Keeps.trans (Keeps.trans (Keeps.trans (Keeps.trans (Keeps.trans (Keeps.trans (Keeps.one _ _ _ _) (Keeps.one _ _ _ _) (fun _ _ h => h)) (Keeps.one _ _ _ _) (fun _ _ h => h)) (Keeps.one _ _ _ _) (fun _ _ h => h)) (Keeps.one _ _ _ _) (fun _ _ h => h)) (Keeps.one _ _ _ _) (fun _ _ h => h)) (Keeps.one _ _ _ _) (fun _ _ h => h)) (Keeps.one _ _ _ _) (fun _ _ h => h)).drew⟩
    rw [HR.out]
    exact StAt.drew0 HS2.out)
theorem enter_any (sb : Nat) (s : Cp.St) (c : Int) (w : World) (hS : StAt w sb s) (hs : Cp.Rng s) (hc : 0 ≤ c ∧ c < 32) (r : Cp.St) (hr : Hid (r = Cp.enter s c)) :
    Calls Tryd.prog 43 #[.pointer (some ⟨sb, 0, none⟩), .int .i64 c] w fun e w' => e = .returned (.tuple #[]) ∧ StAt w' sb r ∧ Keeps (· = sb) w w' := by
  by_cases h1 : s.status / 2 % 2 = 0
  · cases hsl : s.slot
    · exact enter_0 sb s c w hS hs hc h1 hsl r hr
    · exact enter_1 sb s c w hS hs hc h1 hsl r hr
  · exact enter_2 sb s c w hS hs hc h1 r hr
end Go.Proofs.YtlbdkcnbgdmpaaaDoor
