
/- The walk of region.Form where it forms one. -/
import Derived.Test.YtlbdkcnbgdmpaaaDoorForm
import Derived.Deep.CutBlock
import Derived.Deep.CutRange
namespace Go.Proofs.YtlbdkcnbgdmpaaaDoor
open Go.RowKit Go.Deep
set_option linter.unusedVariables false

/-- how many instructions a region under way has -/
def lenAt (w : World) (f : Nat) : Nat := match w.cell? ⟨f, 3, none⟩ with
  | some (.slice _ n _) => n
  | _ => 0
theorem FAt.len {w : World} {B f r : Nat} {most : Int} {pc : Nat} {iv pv : Value} {n : Nat} {ps : List Nat} {st : Nat} {m : Nat → Int} (F : FAt w B f r most pc iv pv n ps st m) : lenAt w f = n := by
  obtain ⟨⟨A, c, rfl⟩, _⟩ := F.slices
  unfold lenAt
  rw [F.cells.2.2.2.1]
/-- how the loop ends -/
def FEnd (w : World) (m : Nat → Int) (pc N : Nat) (ea : Nat → Addr) (e : Ending) (w' : World) : Prop :=
  (N = 0 ∧ e = .returned (.tuple #[noRegion, errV ea 6]) ∧ Keeps (fun _ => False) w w') ∨ (N ≠ 0 ∧ Formed w m pc N e w')

theorem go_stop {K : Nat → Nat} {last f n s : Nat} (h : last ≤ n ∨ K n = 4 ∨ (K n = 3 ∧ 8 ≤ s)) : Fm.go K last (f + 1) n s = n := by rw [Fm.go, if_pos h]
theorem go_yes {K : Nat → Nat} {last f n s : Nat} (h : ¬ (last ≤ n ∨ K n = 4 ∨ (K n = 3 ∧ 8 ≤ s))) (h1 : K n = 1) (h2 : n + 1 < last ∧ 1 ≤ f ∧ K (n + 1) ≠ 1 ∧ K (n + 1) ≠ 4 ∧ ¬ (K (n + 1) = 3 ∧ 8 ≤ s)) : Fm.go K last (f + 1) n s = n + 2 := by rw [Fm.go, if_neg h, if_pos h1, if_pos h2]
theorem go_no {K : Nat → Nat} {last f n s : Nat} (h : ¬ (last ≤ n ∨ K n = 4 ∨ (K n = 3 ∧ 8 ≤ s))) (h1 : K n = 1) (h2 : ¬ (n + 1 < last ∧ 1 ≤ f ∧ K (n + 1) ≠ 1 ∧ K (n + 1) ≠ 4 ∧ ¬ (K (n + 1) = 3 ∧ 8 ≤ s))) : Fm.go K last (f + 1) n s = n := by rw [Fm.go, if_neg h, if_pos h1, if_neg h2]
theorem go_on {K : Nat → Nat} {last f n s : Nat} (h : ¬ (last ≤ n ∨ K n = 4 ∨ (K n = 3 ∧ 8 ≤ s))) (h1 : K n ≠ 1) : Fm.go K last (f + 1) n s = Fm.go K last f (n + 1) (if K n = 3 then s + 1 else s) := by rw [Fm.go, if_neg h, if_neg h1]

set_option maxRecDepth 100000 in
set_option maxHeartbeats 8000000 in
theorem form_walk (r pb pw ph cp : Nat) (m : Nat → Int) (pc most : Nat) (w : World) (ea : Nat → Addr) (E : Errs5 w ea) (R : RamAt w r pb pw ph cp m) (h1 : 1 ≤ most) (h2 : most ≤ 24) (h4 : pc % 4 = 0) (h5 : pc < 16384) (N : Nat) (hN : Hid (formN m pc most = N)) :
    Calls Tryd.prog 10 #[.pointer (some ⟨r, 0, none⟩), .int .u32 pc, .int .i64 most] w fun e w' => FEnd w m pc N ea e w' := by
  have t0 : ((pc : Int) % 4 != 0) = false := by simp; omega
  have k0 := (Keeps.refl (fun _ => False) w).alloc (.cells #[.int .u32 0, .slice none 0 0, .slice none 0 0] 30)
  have hb0 := blk_alloc_new w (.cells #[.int .u32 0, .slice none 0 0, .slice none 0 0] 30)
  have hs0 : (w.alloc (.cells #[.int .u32 0, .slice none 0 0, .slice none 0 0] 30)).heap.size = w.heap.size + 1 := by simp
  have HGL := Lib.hid E.lt
  have R0 := Lib.hid (R.keep k0 (fun h => h) (fun h => h))
  have E0 := Lib.hid (E.quiet k0)
  have HE6 : Hid ((w.alloc (.cells #[.int .u32 0, .slice none 0 0, .slice none 0 0] 30)).cell? ⟨4, 0, none⟩ = some (.iface 173 (.pointer (some (ea 6))))) := Lib.hid ((E.quiet k0).cell 6 (by omega))
  have HLr := Lib.hid (show r < w.heap.size ∧ pb < w.heap.size from ⟨(Array.getElem?_eq_some_iff.1 R.box).1, R.bytes.lt⟩)
  clear R E
  go_enter Tryd.func10, Tryd.ntmps10
  go_upto_block 1 with fail
  have kb := (Keeps.refl (fun _ => False) (w.alloc (.cells #[.int .u32 0, .slice none 0 0, .slice none 0 0] 30))).alloc (.cells #[.pointer (some ⟨r, 0, none⟩), .int .i64 most, .int .u32 pc, .slice none 0 0, .slice none 0 0, .int .i64 0] 76)
  have hbf := blk_alloc_new (w.alloc (.cells #[.int .u32 0, .slice none 0 0, .slice none 0 0] 30)) (.cells #[.pointer (some ⟨r, 0, none⟩), .int .i64 most, .int .u32 pc, .slice none 0 0, .slice none 0 0, .int .i64 0] 76)
  have hbf1 : ((w.alloc (.cells #[.int .u32 0, .slice none 0 0, .slice none 0 0] 30)).alloc (.cells #[.pointer (some ⟨r, 0, none⟩), .int .i64 most, .int .u32 pc, .slice none 0 0, .slice none 0 0, .int .i64 0] 76)).heap[w.heap.size + 1]? = some (.cells #[.pointer (some ⟨r, 0, none⟩), .int .i64 most, .int .u32 pc, .slice none 0 0, .slice none 0 0, .int .i64 0] 76 (0, 0)) := by rw [← hs0]; exact hbf
  generalize hwF : (w.alloc (.cells #[.int .u32 0, .slice none 0 0, .slice none 0 0] 30)).alloc (.cells #[.pointer (some ⟨r, 0, none⟩), .int .i64 most, .int .u32 pc, .slice none 0 0, .slice none 0 0, .int .i64 0] 76) = wF at *
  clear hwF hbf
  generalize hwA : w.alloc (.cells #[.int .u32 0, .slice none 0 0, .slice none 0 0] 30) = wA at *
  generalize hb : w.heap.size = b0 at *
  have HW0 := Lib.hid hb
  have HS0 := Lib.hid hs0
  have HB0 := Lib.hid hb0
  have HK0 := Lib.hid k0
  have hst : FLoop wA wF (b0 + 1) (b0 + 1) r most pc m 0 0 := ⟨.slice none 0 0, .slice none 0 0, ⟨hbf1, World.ownsRow_nil _ _ _ _, World.ownsRow_nil _ _ _ _, Nat.le_refl _, by simp [Value.ownBlock], by simp [Value.ownBlock], .inl rfl⟩, kb.mono (fun _ _ h => h.elim)⟩
  have HST := Lib.hid hst
  clear hwA hb hs0 hb0 k0 kb hbf1 hst
  have HLS := Lib.hid (fun n : Nat => show n < (16384 - pc) / 4 ↔ pc + 4 * n < 16384 by omega)
  -- every error, and memory, as they stand in the loop
  have HEV := Lib.hid (fun (wr : World) (hk : Keeps (fun k => b0 + 1 ≤ k) wA wr) => show Errs3 wr ea ∧ RamAt wr r pb pw ph cp m from
    ⟨E0.out.three.keep hk ⟨by have := HGL.out; omega, by have := HGL.out; omega, by have := HGL.out; omega⟩, R0.out.keep hk (by have := HLr.out; omega) (by have := HLr.out; omega)⟩)
  go_cut [9, 10, 11] from 43 to 79 (fun s9 s10 s11 wx => ∃ st', FLoop wA wx (b0 + 1) (b0 + 1) r most pc m N st')
  case first =>
    go_wp2_with fail
    go_loopw [10] (fun s10 wr => ∃ n st, n ≤ most ∧ st ≤ n ∧ FLoop wA wr (b0 + 1) (b0 + 1) r most pc m n st ∧ Fm.go (kdAt m pc) ((16384 - pc) / 4) (most - n) n st = N) (fun _ wr => most - lenAt wr (b0 + 1))
    case atStart => exact ⟨0, 0, by omega, by omega, HST.out, hN.out⟩
    case round =>
      clear HST
      obtain ⟨n, st, hnm, hst, ⟨iv, pv, hF, hK⟩, hG⟩ := hrel
      have HF := Lib.hid hF
      have HK := Lib.hid hK
      have HG := Lib.hid hG
      have HEX := Lib.hid (show Fm.go (kdAt m pc) ((16384 - pc) / 4) (most - n) n st = n → ∃ st', FLoop wA wr (b0 + 1) (b0 + 1) r most pc m N st' from fun h => ⟨st, iv, pv, by rw [← HG.out, h]; exact hF, hK⟩)
      clear hF hK hG
      by_cases hlt : n < most
      · obtain ⟨f', hf'⟩ : ∃ f', most - n = f' + 1 := ⟨most - n - 1, by omega⟩
        obtain ⟨X, is, hX⟩ := Nx.ex m pc n
        have hXo := hX.op
        have HXX := Lib.hid hX
        have HFF := Lib.hid hf'
        obtain ⟨xo, xS, xT, xD, xi⟩ := X
        clear hX hf'
        have HIS := Lib.hid (show is = true ↔ pc + 4 * n < 16384 by
          rcases HXX.out with ⟨h, e, _⟩ | ⟨h, e, _⟩
          · exact ⟨fun _ => h, fun _ => e⟩
          · exact ⟨fun h2 => absurd (e.symm.trans h2) (by decide), fun h2 => absurd h2 h⟩)
        have HKD := Lib.hid (show is = true → kdAt m pc n = Cd.kd xo by
          rcases HXX.out with ⟨_, _, e⟩ | ⟨_, e, _⟩
          · intro _; unfold kdAt; rw [← e]
          · intro h; rw [e] at h; cases h)
        have HIN := Lib.hid (show is = true → (#[Value.int .i64 xo, .int .i64 xS, .int .i64 xT, .int .i64 xD, .int .u32 xi] : Array Value) = insC (nth m pc n) by
          rcases HXX.out with ⟨_, _, e⟩ | ⟨_, e, _⟩
          · intro _; rw [← e]; rfl
          · intro h; rw [e] at h; cases h)
        obtain ⟨⟨A, cpi, rfl⟩, _⟩ := HF.out.slices
        obtain ⟨c0, c1, c2, c3, c4, c5⟩ := HF.out.cells
        go_wp2_with fail
        refine (next_at2 _ _ r most pc _ pv n _ st m wr wr HF.out (Keeps.refl _ _) (by omega)).mono ?_
        rintro e w1 ⟨rfl, hk1, _⟩
        go_wp2_with fail
        refine (at_nx r pb pw ph cp m pc n ⟨xo, xS, xT, xD, xi⟩ is wr _ ea (HEV.out wr HK.out).1 (HEV.out wr HK.out).2 HXX.out h4 (by omega) _ (by push_cast; rfl) hk1).mono ?_
        rintro e w2 ⟨rfl, hk2, _⟩
        simp only [insC]
        clear hk1 c0 c1 c2 c3 c4 c5
        have HK2 := Lib.hid hk2
        clear hk2
        go_wp2_with fail
        have hbz := blk_alloc_new w2 (.cells #[.int .i64 xo, .int .i64 xS, .int .i64 xT, .int .i64 xD, .int .u32 xi] 39)
        have kz := (Keeps.refl (fun _ => False) w2).alloc (.cells #[.int .i64 xo, .int .i64 xS, .int .i64 xT, .int .i64 xD, .int .u32 xi] 39)
        generalize w2.alloc (.cells #[.int .i64 xo, .int .i64 xS, .int .i64 xT, .int .i64 xD, .int .u32 xi] 39) = w3 at *
        have HZL := Lib.hid HK2.out.size
        generalize w2.heap.size = z at *
        obtain ⟨⟨z0, z1, z2, z3, z4⟩, _⟩ := cells5 hbz
        go_wp2_with fail
        refine (Kind_any xo hXo _).mono ?_
        rintro e w4 ⟨rfl, hk4⟩
        have HK4 := Lib.hid ((HK2.out.trans kz (fun _ _ h => h)).trans hk4 (fun _ _ h => h))
        have HZB := Lib.hid (at_end (i := ⟨0, 0, 0, 0, 0⟩) hbz hk4)
        clear z0 z1 z2 z3 z4 hbz kz hk4
        have HF4 := Lib.hid (HF.out.quiet HK4.out)
        have HE4 := Lib.hid (fun (w' : World) (hk : Keeps (fun _ => False) w4 w') (h : Fm.go (kdAt m pc) ((16384 - pc) / 4) (most - n) n st = n) => show ∃ st', FLoop wA w' (b0 + 1) (b0 + 1) r most pc m N st' by
          obtain ⟨st', iv', pv', h1, h2⟩ := HEX.out h
          have hkk := HK4.out.trans hk (fun _ _ h => h)
          exact ⟨st', iv', pv', h1.quiet hkk, h2.trans hkk (fun _ _ h => h.elim)⟩)
        have HTS := Lib.hid (kd_test (Cd.kd xo) (kd_lt6 xo hXo))
        generalize hkk : Cd.kd xo = kx at *
        have HKK := Lib.hid hkk
        clear hkk
        generalize (⟨(Cd.kindS kx).toArray⟩ : ByteArray) = ks at *
        cases is
        · go_wp2_with fail
          go_meet
          exact HE4.out _ (Keeps.refl _ _) (by rw [HFF.out]; exact go_stop (.inl (by have h1 := HLS.out n; have h2 := HIS.out; simp at h2; omega)))
        · by_cases h4' : kx = 4
          · have t2 : (ks.toList == [116, 114, 97, 112]) = true := by rw [HTS.out.2.2]; simp [h4']
            go_wp2_with fail
            go_meet
            exact HE4.out _ (Keeps.refl _ _) (by rw [HFF.out]; exact go_stop (.inr (.inl (by rw [HKD.out (by trivial)]; exact h4'))))
          · have t2 : (ks.toList == [116, 114, 97, 112]) = false := by rw [HTS.out.2.2]; simp [h4']
            obtain ⟨⟨z0, z1, z2, z3, z4⟩, _⟩ := cells5 HZB.out
            go_wp2_with fail
            refine (full_any _ _ r most pc _ pv n _ st m ⟨xo, xS, xT, xD, xi⟩ hXo _ HF4.out).mono ?_
            rintro e w5 ⟨rfl, hk5⟩
            have HK5 := Lib.hid hk5
            have HF5 := Lib.hid (HF4.out.quiet hk5)
            have HZB5 := Lib.hid (at_end (i := ⟨0, 0, 0, 0, 0⟩) HZB.out hk5)
            clear hk5 z0 z1 z2 z3 z4
            by_cases hfu : kx = 3 ∧ 8 ≤ st
            · have t3 : decide (Cd.kd xo = 3 ∧ 8 ≤ st) = true := decide_eq_true (by rw [HKK.out]; exact hfu)
              have HFU := Lib.hid hfu
              clear hfu
              simp only [t3]
              go_wp2_with fail
              go_meet
              exact HE4.out _ HK5.out (by rw [HFF.out]; exact go_stop (.inr (.inr (by rw [HKD.out (by trivial)]; exact HFU.out))))
            · have t3 : decide (Cd.kd xo = 3 ∧ 8 ≤ st) = false := decide_eq_false (by rw [HKK.out]; exact hfu)
              have HFU := Lib.hid (show ¬ ((16384 - pc) / 4 ≤ n ∨ kdAt m pc n = 4 ∨ (kdAt m pc n = 3 ∧ 8 ≤ st)) by
                rw [HKD.out (by trivial)]
                have h1 := HLS.out n
                have h2 := HIS.out.1 (by trivial)
                omega)
              have hp : pc + 4 * n < 16384 := HIS.out.1 (by trivial)
              clear hfu
              simp only [t3]
              obtain ⟨⟨z0, z1, z2, z3, z4⟩, _⟩ := cells5 HZB5.out
              have hpl := Fm.pages_len pc n (by omega)
              have HKA5 := Lib.hid (show Keeps (fun k => b0 + 1 ≤ k) wA w5 from (HK.out.trans HK4.out (fun _ _ h => h.elim)).trans HK5.out (fun _ _ h => h.elim))
              by_cases hb1 : kx = 1
              · have t1 : (ks.toList == [98, 114, 97, 110, 99, 104]) = true := by rw [HTS.out.2.1]; simp [hb1]
                go_wp2_with fail
                rw [HIN.out (by trivial)]
                refine (branch_any _ _ r pb pw ph cp most pc _ pv n _ st m _ ea (HEV.out w5 HKA5.out).1 (HEV.out w5 HKA5.out).2 HF5.out h4 hp (by omega) h2 (by omega) (by omega) N (Fm.pages pc N) (Lib.hid ?_)).mono ?_
                · have hg := HG.out
                  rw [HFF.out] at hg
                  have l1 := HLS.out (n + 1)
                  have l2 := HFF.out
                  by_cases hC : n + 1 < (16384 - pc) / 4 ∧ 1 ≤ f' ∧ kdAt m pc (n + 1) ≠ 1 ∧ kdAt m pc (n + 1) ≠ 4 ∧ ¬ (kdAt m pc (n + 1) = 3 ∧ 8 ≤ st)
                  · rw [go_yes HFU.out (by rw [HKD.out (by trivial)]; exact hb1) hC] at hg
                    refine .inl ⟨⟨l1.1 hC.1, by omega, hC.2.2⟩, hg.symm, ?_⟩
                    rw [← hg, pages_pageStep, pages_pageStep]
                  · rw [go_no HFU.out (by rw [HKD.out (by trivial)]; exact hb1) hC] at hg
                    exact .inr ⟨fun h => hC ⟨l1.2 h.1, by omega, h.2.2⟩, hg.symm, by rw [← hg]⟩
                rintro e w6 ⟨rfl, st', hT⟩
                have HT := Lib.hid (FLoop.of_taken HF5.out HKA5.out hT rfl)
                clear hT z0 z1 z2 z3 z4
                go_wp2_with fail
                go_meet
                exact ⟨st', HT.out⟩
              · have t1 : (ks.toList == [98, 114, 97, 110, 99, 104]) = false := by rw [HTS.out.2.1]; simp [hb1]
                go_wp2_with fail
                rw [HIN.out (by trivial)]
                refine (take_any _ _ r most pc _ pv n _ st m _ HF5.out (by omega) (by omega) (by omega) (by omega) _ (Lib.hid rfl)).mono ?_
                rintro e w6 ⟨rfl, hT⟩
                have HT := Lib.hid (FLoop.of_taken HF5.out HKA5.out hT (pages_pageStep pc n).symm)
                have hg := HG.out
                rw [HFF.out, go_on HFU.out (by rw [HKD.out (by trivial)]; exact hb1)] at hg
                have HG2 := Lib.hid hg
                have hst6 : (if kdAt m pc n = 3 then st + 1 else st) ≤ n + 1 := by split <;> omega
                generalize (if kdAt m pc n = 3 then st + 1 else st) = st6 at *
                clear hT z0 z1 z2 z3 z4 hg
                go_wp2_with fail
                go_roundw
                case rel => exact ⟨n + 1, st6, by omega, hst6, HT.out, by have := HFF.out; rw [show most - (n + 1) = f' by omega]; exact HG2.out⟩
                case measure =>
                  obtain ⟨iv6, pv6, h6, _⟩ := HT.out
                  rw [h6.len, HF.out.len]
                  omega
      · obtain rfl : n = most := by omega
        obtain ⟨⟨A, cpi, rfl⟩, _⟩ := HF.out.slices
        obtain ⟨c0, c1, c2, c3, c4, c5⟩ := HF.out.cells
        go_wp2_with fail
        go_meet
        exact HEX.out (by rw [Nat.sub_self]; rfl)
  case rest =>
    obtain ⟨st', ivE, pvE, hFE, hkE⟩ := hcut
    have HFE := Lib.hid hFE
    have HKE := Lib.hid hkE
    have HBE := Lib.hid (show wc.heap[b0]? = some (.cells #[.int .u32 0, .slice none 0 0, .slice none 0 0] 30 (0, 0)) from (hkE.block b0 (by have := HS0.out; omega) (by omega)).trans HB0.out)
    have HER := Lib.hid (show wc.cell? ⟨4, 0, none⟩ = some (.iface 173 (.pointer (some (ea 6)))) from hkE.cell' HE6.out (by have := HGL.out; omega))
    clear hFE hkE
    obtain ⟨⟨AE, cpE, rfl⟩, ⟨AP, cpP, rfl⟩⟩ := HFE.out.slices
    obtain ⟨c0, c1, c2, c3, c4, c5⟩ := HFE.out.cells
    obtain ⟨⟨r0, r1, r2⟩, f0, f1, f2⟩ := cells3 HBE.out
    by_cases hN0 : N = 0
    · subst hN0
      have e6 := HER.out
      have H3 := set3 (a' := .int .u32 0) (b' := .slice none 0 0) (c' := .slice none 0 0) HBE.out
      have e6b := H3.2.cell' HER.out (by have := HGL.out; omega)
      have H3B := Lib.hid H3.1
      have H3K := Lib.hid H3.2
      clear H3
      go_wp2_with fail
      go_region
      all_goals (
        generalize (((wc.setCell ⟨b0, 0, none⟩ (.int .u32 0)).setCell ⟨b0, 1, none⟩ (.slice none 0 0)).setCell ⟨b0, 2, none⟩ (.slice none 0 0)) = WW at *
        obtain ⟨⟨d0, d1, d2⟩, _⟩ := cells3 H3B.out
        clear r0 r1 r2 f0 f1 f2 e6 e6b c0 c1 c2 c3 c4 c5
        go_wp2_with fail
        refine bodyPost_ret (v := .tuple #[noRegion, .iface 173 (.pointer (some (ea 6)))]) ?_ rfl (.inl ⟨rfl, rfl, ?_⟩)
        · simp only [Nat.zero_add] at d1 d2
          simp [results, Tryd.results10, go_sem, d0, d1, d2, noRegion]
        · exact (Keeps.trans (Keeps.trans HK0.out HKE.out (fun k hk h => by have := HW0.out; omega)) H3K.out (fun k hk h => by have := HW0.out; omega)).drew)
    · have t1 : ((N : Int) == 0) = false := by simp; omega
      have H3 := set3 (a' := .int .u32 pc) (b' := .slice AE N cpE) (c' := .slice AP (Fm.pages pc N).length cpP) HBE.out
      have H3B := Lib.hid H3.1
      have H3K := Lib.hid H3.2
      clear H3
      go_wp2_with fail
      generalize (((wc.setCell ⟨b0, 0, none⟩ (.int .u32 pc)).setCell ⟨b0, 1, none⟩ (.slice AE N cpE)).setCell ⟨b0, 2, none⟩ (.slice AP (Fm.pages pc N).length cpP)) = WW at *
      obtain ⟨⟨d0, d1, d2⟩, _⟩ := cells3 H3B.out
      clear r0 r1 r2 f0 f1 f2 c0 c1 c2 c3 c4 c5
      refine bodyPost_ret (v := .tuple #[.agg #[.int .u32 pc, .slice AE N cpE, .slice AP (Fm.pages pc N).length cpP], .nilIface]) ?_ rfl (.inr ⟨hN0, _, _, rfl, ?_, ?_, ?_⟩)
      · simp only [Nat.zero_add] at d1 d2
        simp [results, Tryd.results10, go_sem, d0, d1, d2]
      · rw [HW0.out]
        exact ownsRow_base (owns_keep HFE.out.ins H3K.out (fun g hg e => by have := (HFE.out.ins.lt g hg).1; omega)) (Nat.le_succ _)
      · rw [HW0.out]
        exact ownsRow_base (owns_keep HFE.out.pg H3K.out (fun g hg e => by have := (HFE.out.pg.lt g hg).1; omega)) (Nat.le_succ _)
      · exact Keeps.trans (Keeps.trans HK0.out HKE.out (fun k hk h => by have := HW0.out; omega)) H3K.out (fun k hk h => by have := HW0.out; omega)
end Go.Proofs.YtlbdkcnbgdmpaaaDoor
