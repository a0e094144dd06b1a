/- The walk of a machine's Leave. -/
import Derived.Test.YtaflchcoddgdbaaDoorMachOk
import Derived.Test.YtaflchcoddgdbaaDoorMach3
import Derived.Test.YtaflchcoddgdbaaDoorStDefs
namespace Go.Proofs.YtaflchcoddgdbaaDoor
open Go.RowKit Go.Deep
set_option linter.unusedVariables false
set_option linter.unusedSimpArgs false

theorem stL_lenD (s : Cp.St) : (stL s).length = 43 := by simp [stL, regs, restC]
def stF (s : Cp.St) (k : Nat) : Value := (stL s).getD k undef
theorem StAt.rowD {w : World} {sb : Nat} {s : Cp.St} (h : StAt w sb s) : w.rowIs sb 26 43 (stF s) := by
  refine ⟨_, h, by simp [stL_lenD], fun i hi => ?_⟩
  unfold stF
  rw [List.getD_eq_getElem?_getD, List.getElem?_toArray, List.getElem?_eq_getElem (by rw [stL_lenD]; exact hi)]
  rfl
theorem StAt.of_row {w : World} {sb : Nat} {s : Cp.St} {f : Nat → Value} (h : w.rowIs sb 26 43 f) (hf : ∀ i, i < 43 → stF s i = f i) : StAt w sb s := by
  obtain ⟨c, hb, h1, h2⟩ := h
  unfold StAt
  rw [hb]
  congr 2
  apply Array.ext_getElem?
  intro i
  by_cases hi : i < 43
  · rw [h2 i hi, ← hf i hi]
    unfold stF
    rw [List.getD_eq_getElem?_getD, List.getElem?_toArray, List.getElem?_eq_getElem (by rw [stL_lenD]; exact hi)]
    rfl
  · rw [Array.getElem?_eq_none (by omega), List.getElem?_toArray, List.getElem?_eq_none (by rw [stL_lenD]; omega)]
theorem stF_reg (s : Cp.St) (k : Nat) (hk : k < 32) : stF s k = .int .u32 (s.R k) := by
  unfold stF stL
  rw [List.getD_eq_getElem?_getD, List.getElem?_append_left (by rw [regs_len]; exact hk)]
  simp [regs, hk]
theorem stF_rest (s : Cp.St) (i : Nat) : stF s (32 + i) = (restC s).getD i undef := by
  unfold stF stL
  rw [List.getD_eq_getElem?_getD, List.getElem?_append_right (by rw [regs_len]; omega), regs_len, show 32 + i - 32 = i by omega, List.getD_eq_getElem?_getD]
/-- a state as a machine left it -/
def Ir.leaveSt (s : Cp.St) (c : Ir.Mc) (pc many : Int) : Cp.St := { s with R := c.X, hi := c.X 32, lo := c.X 33, pc := pc, next := (pc + 4) % 4294967296, count := s.count + many }
theorem StAt.set32 {w : World} {sb : Nat} {s s' : Cp.St} (h : StAt w sb s) (i : Nat) (v : Value) (hR : s'.R = s.R) (hi : (restC s).set i v = restC s') : StAt (w.setCell ⟨sb, 32 + i, none⟩ v) sb s' := h.set i v hR hi
set_option maxHeartbeats 4000000 in
set_option maxRecDepth 100000 in
theorem leave_any (B mb r sb pb pw ph cp : Nat) (c : Ir.Mc) (m : Nat → Int) (W : Int → Bool) (s : Cp.St) (pc many : Int) (w : World) (M : MachAt w B mb r c) (R : RamAt w r pb pw ph cp m) (hW : WatchAt w pw W) (hS : StAt w sb s) (hok : Ir.McOk W c)
    (hpc : 0 ≤ pc ∧ pc < 4294967296) (hcnt : 0 ≤ s.count ∧ s.count < 4611686018427387904) (hmany : 0 ≤ many ∧ many ≤ 24) (hsep : sb ≠ mb ∧ sb ≠ r ∧ sb ≠ pb ∧ sb ≠ pw) (hsB : sb < B) (hpB : pb < B) (hrB : r < B) (hB : B ≤ w.heap.size) :
    Calls Tryd.prog 43 #[.pointer (some ⟨mb, 0, none⟩), .pointer (some ⟨sb, 0, none⟩), .int .u32 pc, .int .i64 many] w fun e w' => e = .returned (.tuple #[]) ∧ StAt w' sb (Ir.leaveSt s c pc many) ∧ RamAt w' r pb pw ph cp (Ir.pend m c.ws) ∧ Keeps (fun b => b = sb ∨ b = pb) w w' := by
  have HM := Lib.hid M
  have HR := Lib.hid R
  have HW := Lib.hid hW
  have HS := Lib.hid hS
  have HOK := Lib.hid hok
  have HSEP := Lib.hid hsep
  have HLOW := Lib.hid M.low
  clear M R hW hS hok hsep
  go_enter Tryd.func43, Tryd.ntmps43
  go_upto_region 0 with fail
  go_still_tail 8, (by kernel_rfl)
  change wpList _ _ _ _ _ w.drew
  have hkd := (Keeps.refl (fun _ => False) w).drew
  have HK1 := Lib.hid hkd
  have HM1 := Lib.hid (HM.out.keep hkd (fun _ _ h => h))
  have HS1 := Lib.hid (HS.out.keep hkd (fun h => h))
  have HROW1 := Lib.hid (HS1.out.rowD)
  clear hkd
  generalize w.drew = w1 at *
  refine wpList_copy_rowIs rfl (.tmp 13) (.tmp 17) 27 27 rfl 23 Tryd.underlying27 (by kernel_rfl) sb 0 32 32 ⟨mb, 0, none⟩ 32 64 rfl rfl 26 43 _ HROW1.out 32 (fun k => .int .u32 (c.X k)) (by decide) ?a2 (by omega) (fun _ _ => rfl) ?a5
  case a2 =>
    intro j hj
    rw [Addr.add_lit, Nat.zero_add]
    exact (HM1.out.reg j (by omega)).1
  case a5 =>
    intro w2 hrow hk2
    have hS2 : StAt w2 sb { s with R := c.X } := StAt.of_row hrow (fun i hi => by
      by_cases h : i < 32
      · rw [if_pos ⟨Nat.zero_le _, by omega⟩, stF_reg _ i h, Nat.sub_zero]
      · rw [if_neg (by omega)]
        obtain ⟨j, rfl⟩ : ∃ j, i = 32 + j := ⟨i - 32, by omega⟩
        rw [stF_rest, stF_rest]
        rfl)
    have HS2 := Lib.hid hS2
    have HK2 := Lib.hid hk2
    have HM2 := Lib.hid (HM1.out.keep hk2 (fun b hb e => by have e : b = sb := e; omega))
    have hne := HSEP.out.1
    have hne2 : mb ≠ sb := fun e => hne e.symm
    obtain ⟨p0, p1, p2, p3, p4, p5, p6, p7, p8, p9, p10⟩ := hS2.cells
    have q0 := hS2.frozen 32
    have q1 := hS2.frozen 33
    obtain ⟨x0, _⟩ := HM2.out.reg 32 (by omega)
    obtain ⟨x1, _⟩ := HM2.out.reg 33 (by omega)
    simp only at p0 p1
    clear hrow hk2 hS2 HROW1 p2 p3 p4 p5 p6 p7 p8 p9 p10
    go_upto_region 1 with fail
    go_region_held3 (fun w' => Keeps (· = sb) w2 w' ∧ w'.cell? ⟨mb, 32, none⟩ = some (.int .u32 (c.X 32)) ∧ w'.cell? ⟨mb, 33, none⟩ = some (.int .u32 (c.X 33)))
      (first | (refine ⟨?_, ?_, ?_⟩ <;> first | ((repeat (first | (with_reducible assumption) | (with_reducible (exact Keeps.refl _ _)) | (with_reducible (apply Keeps.drew)) | (refine Keeps.setCell (S := fun x => x = sb) (a := ⟨sb, _, none⟩) ?_ (fun _ => rfl) _))); done) | (refine Keeps.cell' (S := (· = sb)) (w := w2) ?_ (by assumption) hne2; (repeat (first | (with_reducible assumption) | (with_reducible (exact Keeps.refl _ _)) | (with_reducible (apply Keeps.drew)) | (refine Keeps.setCell (S := fun x => x = sb) (a := ⟨sb, _, none⟩) ?_ (fun _ => rfl) _))); done)) | (trace_state; fail))
      (fail)
    rename_i hh
    have HKH := Lib.hid hh.1
    have hS3 : StAt ((w2.setCell ⟨sb, 32, none⟩ (.int .u32 (c.X 32))).setCell ⟨sb, 33, none⟩ (.int .u32 (c.X 33))).drew sb { s with R := c.X, hi := c.X 32, lo := c.X 33 } :=
      StAt.keep (((HS2.out.set (s' := { s with R := c.X, hi := c.X 32 }) 0 (.int .u32 (c.X 32)) rfl rfl).set (s' := { s with R := c.X, hi := c.X 32, lo := c.X 33 }) 1 (.int .u32 (c.X 33)) rfl rfl)) ((Keeps.refl (fun _ => False) _).drew) (fun h => h)
    have HS3 := Lib.hid hS3
    have HM3 := Lib.hid (HM2.out.keep hh.1 (fun b hb e => by have e : b = sb := e; omega))
    clear hh q0 q1 x0 x1 p0 p1
    generalize World.drew _ = w3 at *
    have HK3 := Lib.hid ((HK1.out.mono (T := fun b => b = sb) (fun _ _ h => h.elim)).trans (HK2.out.trans HKH.out (fun _ _ h => h)) (fun _ _ h => h))
    obtain ⟨p0, p1, p2, p3, p4, p5, p6, p7, p8, p9, p10⟩ := hS3.cells
    have q2 := hS3.frozen 34
    have q3 := hS3.frozen 35
    have q10 := hS3.frozen 42
    simp only at p2 p3 p10
    have hw1 : IntKind.i64.wrap (s.count + many) = s.count + many := by rw [IntKind.wrap_i64]; omega
    have hS4 : StAt (((w3.setCell ⟨sb, 34, none⟩ (.int .u32 pc)).setCell ⟨sb, 35, none⟩ (.int .u32 ((pc + 4) % 4294967296))).setCell ⟨sb, 42, none⟩ (.int .i64 (s.count + many))) sb (Ir.leaveSt s c pc many) := ((HS3.out.set (s' := { s with R := c.X, hi := c.X 32, lo := c.X 33, pc := pc }) 2 (.int .u32 pc) rfl rfl).set (s' := { s with R := c.X, hi := c.X 32, lo := c.X 33, pc := pc, next := (pc + 4) % 4294967296 }) 3 (.int .u32 ((pc + 4) % 4294967296)) rfl rfl).set (s' := Ir.leaveSt s c pc many) 10 (.int .i64 (s.count + many)) rfl rfl
    have hk4 : Keeps (· = sb) w3 _ := ((Keeps.one w3 sb 34 (.int .u32 pc)).trans (Keeps.one _ sb 35 (.int .u32 ((pc + 4) % 4294967296))) (fun _ _ h => h)).trans (Keeps.one _ sb 42 (.int .i64 (s.count + many))) (fun _ _ h => h)
    have HS4 := Lib.hid hS4
    have HK4 := Lib.hid (HK3.out.trans hk4 (fun _ _ h => h))
    have HM4 := Lib.hid (HM3.out.keep hk4 (fun b hb e => by have e : b = sb := e; omega))
    clear hS3 hS4 hk4 p0 p1 p4 p5 p6 p7 p8 p9
    go_upto_region 3 with fail
    clear p2 p3 p10 q2 q3 q10 hw1
    generalize World.setCell (World.setCell (World.setCell w3 _ _) _ _) _ _ = w4 at *
    have HR4 := Lib.hid (HR.out.keep HK4.out (fun e => HSEP.out.2.1 (Eq.symm e)) (fun e => HSEP.out.2.2.1 (Eq.symm e)))
    have HW4 := Lib.hid (HW.out.keep HK4.out (fun e => HSEP.out.2.2.2 (Eq.symm e)))
    obtain ⟨A, cap, hw65, hWT⟩ := HM4.out.wts
    obtain ⟨N, hN⟩ : ∃ N, c.ws.length = N := ⟨_, rfl⟩
    rw [hN] at hw65 hWT
    have HN := Lib.hid hN
    have hNle := hWT.2.1
    have H65 := Lib.hid hw65
    clear hN hWT
    have hpm : ∀ b, B ≤ b → ¬ (b = pb) := fun b hb e => by omega
    have HPM := Lib.hid hpm
    clear hpm
    go_wp2_with fail
    go_loopw [58] (fun s58 wr => ∃ i : Nat, i ≤ N ∧ s58 = .int .i64 i ∧ RamAt wr r pb pw ph cp (Ir.pend m (c.ws.take i)) ∧ Keeps (fun b => b = pb) w4 wr) (fun s58 _ => N - (intOf s58).toNat)
    case atStart => exact ⟨0, by omega, rfl, HR4.out, Keeps.refl _ _⟩
    case round =>
      obtain ⟨i, hi, rfl, hRi, hKi⟩ := hrel
      have HRI := Lib.hid hRi
      have HKI := Lib.hid hKi
      have HMI := Lib.hid (HM4.out.keep hKi HPM.out)
      clear hRi hKi hw65
      by_cases hlt : i < N
      · obtain ⟨A', cap', h65', _, _, hcap, hlies⟩ := HMI.out.wts
        rw [HN.out] at h65'
        have h65 := HKI.out.cell' H65.out (fun e => HPM.out mb HLOW.out e)
        rw [h65] at h65'
        injection h65' with h65'
        injection h65' with e1 e2 e3
        subst e1 e3
        clear e2
        obtain ⟨g, rfl, hg⟩ := hlies.resolve_left (by have := HN.out; omega)
        obtain ⟨g0, g1, g2⟩ := hg i (by rw [HN.out]; exact hlt)
        obtain ⟨st, hst⟩ : ∃ st, c.ws[i]'(by rw [HN.out]; exact hlt) = st := ⟨_, rfl⟩
        have hso := HOK.out.ws _ (List.getElem_mem (show i < c.ws.length by rw [HN.out]; exact hlt))
        have hsn := pend_snoc m c.ws i (by rw [HN.out]; exact hlt)
        rw [hst] at g0 g1 g2 hso hsn
        obtain ⟨sa, sz, sv⟩ := st
        simp only at g0 g1 g2 hso hsn
        obtain ⟨hs1, hs2, hsv, hsw⟩ := hso
        have HSN := Lib.hid hsn
        have hrc := rightC_ok hs1
        have h64 := HMI.out.ram
        clear hg hst hsn hlies h65
        have hka := (Keeps.refl (fun _ => False) wr).alloc (.cells #[.int .u32 sa, .int .i64 sz, .int .u32 sv] 118)
        have HKA := Lib.hid hka
        have c0 := cells_new wr [.int .u32 sa, .int .i64 sz, .int .u32 sv] 118 0 _ rfl
        have c1 := cells_new wr [.int .u32 sa, .int .i64 sz, .int .u32 sv] 118 1 _ rfl
        have c2 := cells_new wr [.int .u32 sa, .int .i64 sz, .int .u32 sv] 118 2 _ rfl
        rw [Addr.add_lit] at c0 c1 c2
        simp only [Nat.zero_add] at c0 c1 c2
        have H64 := Lib.hid (hka.cell' h64 (fun h => h))
        clear hka
        go_upto_region 6 with fail
        have h64 := H64.out
        clear H64
        have hkr := (HKA.out).drew
        have HRW := Lib.hid (HRI.out.keep hkr (fun h => h) (fun h => h))
        have hw5 := HW4.out.keep (HKI.out.trans (hkr.mono (T := fun b => b = pb) (fun _ _ h => h.elim)) (fun _ _ h => h)) (fun e => HRI.out.apart.2.2.2.1 (Eq.symm e))
        have HW5 := Lib.hid hw5
        generalize wr.alloc _ = w5 at *
        have HST := Lib.hid (store_coldI r pb pw ph cp (Ir.pend m (c.ws.take i)) sa sz sv w5.drew HRW.out hs2 hsv hs1 (fun w' k => by
          have h1 := hrc.2.2
          have h2 := (HW5.out.keep k (fun e => HRI.out.apart.2.2.2.1 (Eq.symm e))).look (sa / 256) (by omega) (by omega)
          rw [hsw] at h2
          exact h2))
        rw [← HSN.out] at HST
        clear hw5 hsw hrc hs1
        go_still_tail 10, (by kernel_rfl)
        change wpList _ _ _ _ _ w5.drew
        go_wp2_with fail
        refine HST.out.mono ?_
        rintro e w6 ⟨rfl, hR6, hk6⟩
        have HR6 := Lib.hid hR6
        have HK6 := Lib.hid (HKI.out.trans ((hkr.mono (T := fun b => b = pb) (fun _ _ h => h.elim)).trans hk6 (fun _ _ h => h)) (fun _ _ h => h))
        clear hR6 hk6 hkr c0 c1 c2 h64 g0 g1 g2
        go_wp2_with fail
        go_roundw
        case rel => exact ⟨i + 1, by omega, by go_num, HR6.out, HK6.out⟩
        case measure => simp [intOf]; omega
      · obtain rfl : i = N := by omega
        go_wp2_with fail
        refine bodyPost_end (results_none rfl _ _ _) rfl ⟨rfl, ?_, ?_, ?_⟩
        · exact HS4.out.keep HKI.out (fun e => HSEP.out.2.2.1 e)
        · have h := HRI.out
          rw [show c.ws.take i = c.ws by rw [← HN.out, List.take_length]] at h
          exact h
        · exact (HK4.out.mono (T := fun b => b = sb ∨ b = pb) (fun _ _ h => .inl h)).trans HKI.out (fun _ _ h => .inr h)
end Go.Proofs.YtaflchcoddgdbaaDoor
