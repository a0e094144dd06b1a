import Derived.Test.YtlbdkcnbgdmpaaaDoorFormsz2
import Derived.Test.YtlbdkcnbgdmpaaaDoorFormsz4
import Derived.Laws.ResultCell
import Derived.Deep.CutBlock
import Derived.Deep.CutRange

/- RefForm0 -/
/- The reference's region under way, as it lies; FormOf where it forms none. -/
namespace Go.Proofs.YtlbdkcnbgdmpaaaDoor
open Go.RowKit Go.Deep
set_option linter.unusedVariables false

structure RF (w : World) (B f pc : Nat) (iv pv : Value) (n : Nat) (ps : List Nat) (m : Nat → Int) : Prop where
  box : w.heap[f]? = some (.cells #[.int .u32 pc, iv, pv] 44 (0, 0))
  ins : w.ownsRow B 39 5 iv n (insL m pc n)
  pg : w.ownsRow B 3 1 pv ps.length (pageL ps)
  low : B ≤ f
  fi : iv.ownBlock ≠ some f
  fp : pv.ownBlock ≠ some f
  ip : iv.ownBlock = none ∨ iv.ownBlock ≠ pv.ownBlock
theorem RF.cells {w : World} {B f pc : Nat} {iv pv : Value} {n : Nat} {ps : List Nat} {m : Nat → Int} (F : RF w B f pc iv pv n ps m) :
    w.cell? ⟨f, 0, none⟩ = some (.int .u32 pc) ∧ w.cell? ⟨f, 1, none⟩ = some iv ∧ w.cell? ⟨f, 2, none⟩ = some pv := by
  refine ⟨?_, ?_, ?_⟩ <;> simp [World.cell?, F.box]
theorem RF.keep {w w' : World} {B f pc : Nat} {iv pv : Value} {n : Nat} {ps : List Nat} {m : Nat → Int} {S : Nat → Prop} (F : RF w B f pc iv pv n ps m) (k : Keeps S w w') (h1 : ¬ S f) (h2 : ∀ g, iv.ownBlock = some g → ¬ S g) (h3 : ∀ g, pv.ownBlock = some g → ¬ S g) : RF w' B f pc iv pv n ps m where
  box := (k.block f (Array.getElem?_eq_some_iff.1 F.box).1 h1).trans F.box
  ins := owns_keep F.ins k h2
  pg := owns_keep F.pg k h3
  low := F.low
  fi := F.fi
  fp := F.fp
  ip := F.ip
theorem RF.quiet {w w' : World} {B f pc : Nat} {iv pv : Value} {n : Nat} {ps : List Nat} {m : Nat → Int} (F : RF w B f pc iv pv n ps m) (k : Keeps (fun _ => False) w w') : RF w' B f pc iv pv n ps m :=
  F.keep k (fun h => h) (fun _ _ h => h) (fun _ _ h => h)
theorem RF.slices {w : World} {B f pc : Nat} {iv pv : Value} {n : Nat} {ps : List Nat} {m : Nat → Int} (F : RF w B f pc iv pv n ps m) : (∃ A c, iv = .slice A n c) ∧ ∃ A c, pv = .slice A ps.length c := ⟨owns_slice F.ins, owns_slice F.pg⟩
theorem RF.lt {w : World} {B f pc : Nat} {iv pv : Value} {n : Nat} {ps : List Nat} {m : Nat → Int} (F : RF w B f pc iv pv n ps m) : f < w.heap.size := (Array.getElem?_eq_some_iff.1 F.box).1
theorem RF.addPage {w w1 : World} {B f pc : Nat} {iv pv pv' : Value} {n : Nat} {ps : List Nat} {m : Nat → Int} (F : RF w B f pc iv pv n ps m) (p : Nat)
    (hk : Keeps (fun k => pv.ownBlock = some k) w w1) (hown : w1.ownsRow B 3 1 pv' (ps.length + 1) (pageL ps ++ [.int .i64 p])) (hmv : Moved w pv pv') :
    RF (w1.setCell ⟨f, 2, none⟩ pv') B f pc iv pv' n (ps ++ [p]) m ∧ Keeps (fun k => k = f ∨ pv.ownBlock = some k) w (w1.setCell ⟨f, 2, none⟩ pv') := by
  have hbl : f < w.heap.size := (Array.getElem?_eq_some_iff.1 F.box).1
  have hb1 := (hk.block f hbl F.fp).trans F.box
  have hst := Keeps.one w1 f 2 pv'
  have htb := hmv.ne hbl F.fp
  have hkk : Keeps (fun k => k = f ∨ pv.ownBlock = some k) w (w1.setCell ⟨f, 2, none⟩ pv') := Keeps.trans (hk.mono (fun k _ h => Or.inr h)) hst (fun k _ h => Or.inl h)
  have hot : ∀ g, iv.ownBlock = some g → ¬ (g = f ∨ pv.ownBlock = some g) := by
    intro g hg h
    rcases h with rfl | h
    · exact F.fi hg
    · rcases F.ip with h0 | h0
      · rw [h0] at hg; cases hg
      · exact h0 (hg.trans h.symm)
  refine ⟨⟨?_, owns_keep F.ins hkk hot, ?_, F.low, F.fi, htb, ?_⟩, hkk⟩
  · exact set_block hb1 2 pv'
  · have := owns_keep hown hst (fun g hg e => htb (e ▸ hg))
    simpa [pageL] using this
  · cases hov : iv.ownBlock with
    | none => exact .inl rfl
    | some g =>
      refine .inr fun e => ?_
      rcases hmv with h | h
      · exact hot g hov (.inr (h ▸ e.symm))
      · have := owns_lt F.ins hov
        have := h g e.symm
        omega
theorem RF.addIns {w w1 : World} {B f pc : Nat} {iv iv' pv : Value} {n : Nat} {ps : List Nat} {m : Nat → Int} (F : RF w B f pc iv pv n ps m)
    (hk : Keeps (fun k => iv.ownBlock = some k) w w1) (hown : w1.ownsRow B 39 5 iv' (n + 1) (insL m pc n ++ (insC (nth m pc n)).toList)) (hmv : Moved w iv iv') :
    RF (w1.setCell ⟨f, 1, none⟩ iv') B f pc iv' pv (n + 1) ps m ∧ Keeps (fun k => k = f ∨ iv.ownBlock = some k) w (w1.setCell ⟨f, 1, none⟩ iv') := by
  have hbl : f < w.heap.size := (Array.getElem?_eq_some_iff.1 F.box).1
  have hb1 := (hk.block f hbl F.fi).trans F.box
  have hst := Keeps.one w1 f 1 iv'
  have htb := hmv.ne hbl F.fi
  have hkk : Keeps (fun k => k = f ∨ iv.ownBlock = some k) w (w1.setCell ⟨f, 1, none⟩ iv') := Keeps.trans (hk.mono (fun k _ h => Or.inr h)) hst (fun k _ h => Or.inl h)
  have hot : ∀ g, pv.ownBlock = some g → ¬ (g = f ∨ iv.ownBlock = some g) := by
    intro g hg h
    rcases h with rfl | h
    · exact F.fp hg
    · rcases F.ip with h0 | h0
      · rw [h0] at h; cases h
      · exact h0 (h.trans hg.symm)
  refine ⟨⟨set_block hb1 1 iv', ?_, owns_keep F.pg hkk hot, F.low, htb, F.fp, ?_⟩, hkk⟩
  · rw [insL_succ]
    exact owns_keep hown hst (fun g hg e => htb (e ▸ hg))
  · cases hov : iv'.ownBlock with
    | none => exact .inl rfl
    | some g =>
      refine .inr fun e => ?_
      rcases hmv with h | h
      · exact hot g e.symm (.inr (h ▸ hov))
      · have := owns_lt F.pg e.symm
        have := h g hov
        omega

theorem set3r {w : World} {x : Nat} {T : TypeId} {a b c a' b' c' : Value} (h : w.heap[x]? = some (.cells #[a, b, c] T (0, 0))) :
    (((w.setCell ⟨x, 0, none⟩ a').setCell ⟨x, 1, none⟩ b').setCell ⟨x, 2, none⟩ c').heap[x]? = some (.cells #[a', b', c'] T (0, 0)) ∧
      Keeps (· = x) w (((w.setCell ⟨x, 0, none⟩ a').setCell ⟨x, 1, none⟩ b').setCell ⟨x, 2, none⟩ c') := by
  refine ⟨?_, Keeps.trans (Keeps.trans (Keeps.one _ _ _ _) (Keeps.one _ _ _ _) (fun _ _ h => h)) (Keeps.one _ _ _ _) (fun _ _ h => h)⟩
  have h1 := set_block (set_block (set_block h 0 a') 1 b') 2 c'
  simpa using h1
theorem size_reg : (Tryd.prog.info? 44).map (·.size) = some 3 := by kernel_rfl
/-- a result that lies in a cell, and one that doesn't -/
theorem results_reg {fn : Func} {p u : Tmp} (h : fn.results = #[.cell p 44, .tmp u]) (tmps : Array Value) (w : World) (g : Nat) (cs : Array Value) (hp : tmps.getD p undef = .pointer (some ⟨g, 0, none⟩)) (hg : w.heap[g]? = some (.cells cs 44 (0, 0))) (hc : cs.size = 3) :
    (results fn tmps).run Tryd.prog w = .ok (.tuple #[.agg cs, tmps.getD u undef]) w := by
  rw [results_cell_tmp h, hp]
  have := run_loadVar_row (P := Tryd.prog) w g 44 44 cs (0, 0) _ hg Tryd.underlying44 rfl (by rw [hc]; exact size_reg)
  simp [asAddr, this]
set_option maxRecDepth 100000 in
set_option maxHeartbeats 2000000 in
theorem formOf_bad (q : Value) (pc most : Int) (w : World) (c : Nat) (hc : formC pc most = c) (h0 : c ≠ 0) (hpc : 0 ≤ pc ∧ pc < 4294967296) :
    Calls Tryd.prog 17 #[q, .int .u32 pc, .int .i64 most] w fun e w' => e = .returned (.tuple #[noRegion, .int .i64 c]) ∧ Keeps (fun _ => False) w w' := by
  have HB := Lib.hid (blk_alloc_new w (.cells #[.int .u32 0, .slice none 0 0, .slice none 0 0] 44 (0, 0)))
  have HK := Lib.hid ((Keeps.refl (fun _ => False) w).alloc (.cells #[.int .u32 0, .slice none 0 0, .slice none 0 0] 44 (0, 0)))
  have HW := Lib.hid (show w.heap.size < (w.alloc (.cells #[.int .u32 0, .slice none 0 0, .slice none 0 0] 44 (0, 0))).heap.size by rw [nblk_alloc]; omega)
  unfold formC at hc
  by_cases h1 : most < 1
  · rw [if_pos (.inl h1)] at hc
    subst hc
    clear h0
    go_enter Tryd.func17, Tryd.ntmps17
    go_wp2_with fail
    exact bodyPost_ret (results_reg rfl _ _ w.heap.size #[.int .u32 0, .slice none 0 0, .slice none 0 0] rfl HB.out rfl) rfl ⟨rfl, HK.out⟩
  by_cases h2 : 24 < most
  · rw [if_pos (.inr h2)] at hc
    subst hc
    clear h0
    go_enter Tryd.func17, Tryd.ntmps17
    go_wp2_with fail
    exact bodyPost_ret (results_reg rfl _ _ w.heap.size #[.int .u32 0, .slice none 0 0, .slice none 0 0] rfl HB.out rfl) rfl ⟨rfl, HK.out⟩
  rw [if_neg (by omega)] at hc
  by_cases h3 : pc % 4 = 0
  · rw [if_neg (by omega)] at hc
    by_cases h4 : 16384 ≤ pc
    · rw [if_pos h4] at hc
      subst hc
      have t3 : (pc % 4 != 0) = false := by simpa using h3
      clear h0 h3
      go_enter Tryd.func17, Tryd.ntmps17
      go_wp2_with fail
      exact bodyPost_ret (results_reg rfl _ _ w.heap.size #[.int .u32 0, .slice none 0 0, .slice none 0 0] rfl HB.out rfl) rfl ⟨rfl, HK.out⟩
    · rw [if_neg h4] at hc
      exact absurd hc.symm h0
  · rw [if_pos h3] at hc
    subst hc
    have t3 : (pc % 4 != 0) = true := by simpa using h3
    clear h0 h3
    go_enter Tryd.func17, Tryd.ntmps17
    go_wp2_with fail
    exact bodyPost_ret (results_reg rfl _ _ w.heap.size #[.int .u32 0, .slice none 0 0, .slice none 0 0] rfl HB.out rfl) rfl ⟨rfl, HK.out⟩
end Go.Proofs.YtlbdkcnbgdmpaaaDoor

/- RefForm -/
/- The walk of the reference's FormOf where it forms a region. -/
namespace Go.Proofs.YtlbdkcnbgdmpaaaDoor
open Go.RowKit Go.Deep
set_option linter.unusedVariables false

/-- the state of the loop -/
def RLoop (w wr : World) (B x pc : Nat) (m : Nat → Int) (n : Nat) : Prop := ∃ iv, RF wr B x pc iv (.slice none 0 0) n [] m ∧ Keeps (fun k => B ≤ k) w wr
/-- how it ends -/
def REnd (w : World) (m : Nat → Int) (pc N : Nat) (e : Ending) (w' : World) : Prop :=
  (N = 0 ∧ e = .returned (.tuple #[noRegion, .int .i64 6]) ∧ Keeps (fun _ => False) w w') ∨
  (N ≠ 0 ∧ ∃ iv pv, e = .returned (.tuple #[.agg #[.int .u32 pc, iv, pv], .int .i64 0]) ∧ w'.ownsRow w.heap.size 39 5 iv N (insL m pc N) ∧ w'.ownsRow w.heap.size 3 1 pv (Fm.pages pc N).length (pageL (Fm.pages pc N)) ∧ Keeps (fun _ => False) w w')
/-- a kind's text, tested for three -/
theorem kd_test3 (k : Nat) (hk : k < 6) : ((⟨(Cd.kindS k).toArray⟩ : ByteArray).toList == [116, 114, 97, 112]) = decide (k = 4) ∧ ((⟨(Cd.kindS k).toArray⟩ : ByteArray).toList == [115, 116, 111, 114, 101]) = decide (k = 3) ∧ ((⟨(Cd.kindS k).toArray⟩ : ByteArray).toList == [98, 114, 97, 110, 99, 104]) = decide (k = 1) := by
  have : k = 0 ∨ k = 1 ∨ k = 2 ∨ k = 3 ∨ k = 4 ∨ k = 5 := by omega
  rcases this with rfl | rfl | rfl | rfl | rfl | rfl <;> decide +kernel

set_option maxRecDepth 100000 in
set_option maxHeartbeats 8000000 in
theorem formOf_walk (q wb : Nat) (m : Nat → Int) (pc most : Nat) (w : World) (hq : w.cell? ⟨q, 0, none⟩ = some (.slice (some ⟨wb, 0, none⟩) 4096 4096)) (hW : ∀ i, i < 4096 → w.cell? ⟨wb, i, none⟩ = some (.int .u32 (be m (4 * i) 4))) (hm : ∀ i, i < 16384 → 0 ≤ m i ∧ m i < 256)
    (h1 : 1 ≤ most) (h2 : most ≤ 24) (h4 : pc % 4 = 0) (h5 : pc < 16384) (N : Nat) (hN : Hid (formN m pc most = N)) :
    Calls Tryd.prog 17 #[.pointer (some ⟨q, 0, none⟩), .int .u32 pc, .int .i64 most] w fun e w' => REnd w m pc N e w' := by
  obtain ⟨ii, hii, hiz0, hiz1, hiz2⟩ := info_parts Tryd.info_ins
  obtain ⟨i0, hi, hz0, hz1, hz2⟩ := info_parts Tryd.info_int
  have t0 : ((pc : Int) % 4 != 0) = false := by simp; omega
  have t1 : decide ((most : Int) < 1) = false := decide_eq_false (by omega)
  have t2 : decide (24 < (most : Int)) = false := decide_eq_false (by omega)
  have t3 : decide (16384 ≤ (pc : Int)) = false := decide_eq_false (by omega)
  have HQ := Lib.hid hq
  have HW := Lib.hid hW
  have HM := Lib.hid hm
  have HLq := Lib.hid (show q < w.heap.size ∧ wb < w.heap.size from ⟨World.block_lt_of_cell? w _ hq, World.block_lt_of_cell? w _ (hW 0 (by omega))⟩)
  have k0 := (Keeps.refl (fun _ => False) w).alloc (.cells #[.int .u32 0, .slice none 0 0, .slice none 0 0] 44)
  have hb0 := blk_alloc_new w (.cells #[.int .u32 0, .slice none 0 0, .slice none 0 0] 44)
  have hs0 : (w.alloc (.cells #[.int .u32 0, .slice none 0 0, .slice none 0 0] 44)).heap.size = w.heap.size + 1 := nblk_alloc _ _
  have hb1 := blk_alloc_new (w.alloc (.cells #[.int .u32 0, .slice none 0 0, .slice none 0 0] 44)) (.cells #[.int .u32 pc, .slice none 0 0, .slice none 0 0] 44)
  have k1 := (Keeps.refl (fun _ => False) (w.alloc (.cells #[.int .u32 0, .slice none 0 0, .slice none 0 0] 44))).alloc (.cells #[.int .u32 pc, .slice none 0 0, .slice none 0 0] 44)
  clear hq hW hm
  rw [hs0] at hb1
  have HB0 := Lib.hid hb0
  have HB1 := Lib.hid hb1
  have HK0 := Lib.hid k0
  have HK1 := Lib.hid k1
  have HS0 := Lib.hid hs0
  clear hb0 hb1 k0 k1 hs0
  go_enter Tryd.func17, Tryd.ntmps17
  go_upto_block 0 with fail
  generalize hwA : w.alloc (.cells #[.int .u32 0, .slice none 0 0, .slice none 0 0] 44) = wA at *
  generalize hwF : wA.alloc (.cells #[.int .u32 pc, .slice none 0 0, .slice none 0 0] 44) = wF at *
  generalize hb : w.heap.size = b0 at *
  have HWB := Lib.hid hb
  have HST := Lib.hid (show RLoop wA wF (b0 + 1) (b0 + 1) pc m 0 from ⟨.slice none 0 0, ⟨HB1.out, World.ownsRow_nil _ _ _ _, World.ownsRow_nil _ _ _ _, Nat.le_refl _, by simp [Value.ownBlock], by simp [Value.ownBlock], .inl rfl⟩, HK1.out.mono (fun _ _ h => h.elim)⟩)
  -- memory as it stands in the loop
  have HEV := Lib.hid (fun (wr : World) (hk : Keeps (fun k => b0 + 1 ≤ k) wA wr) => show wr.cell? ⟨q, 0, none⟩ = some (.slice (some ⟨wb, 0, none⟩) 4096 4096) ∧ ∀ i, i < 4096 → wr.cell? ⟨wb, i, none⟩ = some (.int .u32 (be m (4 * i) 4)) from
    ⟨hk.cell' (HK0.out.cell' HQ.out (fun h => h)) (by have := HLq.out; omega), fun i hi => hk.cell' (HK0.out.cell' (HW.out i hi) (fun h => h)) (by have := HLq.out; omega)⟩)
  clear hwA hwF hb HK1
  go_cut [9, 10, 11, 12, 13, 14, 15] from 36 to 131 (fun s9 s10 s11 s12 s13 s14 s15 wx => s10 = .int .i64 (pc + 4 * N) ∧ RLoop wA wx (b0 + 1) (b0 + 1) pc m N)
  case first =>
    go_wp2_with fail
    go_loopw [9, 10] (fun s9 s10 wr => ∃ n st, n ≤ most ∧ st ≤ n ∧ st ≤ 8 ∧ s9 = .int .i64 st ∧ s10 = .int .i64 (pc + 4 * n) ∧ RLoop wA wr (b0 + 1) (b0 + 1) pc m n ∧ Fm.go (kdAt m pc) ((16384 - pc) / 4) (most - n) n st = N) (fun s9 s10 wr => 20000 - (intOf s10).toNat)
    case atStart => exact ⟨0, 0, by omega, by omega, by omega, rfl, by simp, HST.out, hN.out⟩
    case round =>
      clear HST
      obtain ⟨n, st, hnm, hst, hst8, rfl, rfl, ⟨iv, hF, hK⟩, hG⟩ := hrel
      have HF := Lib.hid hF
      have HK := Lib.hid hK
      have HG := Lib.hid hG
      have HEX := Lib.hid (fun (wx : World) (hk : Keeps (fun _ => False) wr wx) (h : Fm.go (kdAt m pc) ((16384 - pc) / 4) (most - n) n st = n) => show Value.int .i64 (pc + 4 * n) = .int .i64 (pc + 4 * N) ∧ RLoop wA wx (b0 + 1) (b0 + 1) pc m N by
        have e : n = N := h.symm.trans hG
        subst e
        exact ⟨rfl, iv, hF.quiet hk, hK.trans hk (fun _ _ h => h.elim)⟩)
      obtain ⟨c0, c1, c2⟩ := hF.cells
      obtain ⟨⟨A, cpi, rfl⟩, _⟩ := hF.slices
      clear hF hK hG
      by_cases hlt : n < most
      · have HLT := Lib.hid hlt
        by_cases hp : pc + 4 * n < 16384
        · have HP := Lib.hid hp
          have cq := (HEV.out wr HK.out).1
          have hki : (pc + 4 * n) / 4 < 4096 := by omega
          have cw := (HEV.out wr HK.out).2 ((pc + 4 * n) / 4) hki
          rw [show 4 * ((pc + 4 * n) / 4) = pc + 4 * n by omega] at cw
          have HBE := Lib.hid (be_rng m (pc + 4 * n) 4 (fun i hi => HM.out _ (by omega)))
          have td : ((pc : Int) + 4 * (n : Int)) / 4 = (((pc + 4 * n) / 4 : Nat) : Int) := by push_cast; rfl
          have hki2 : (((pc + 4 * n) / 4 : Nat) : Int) < 4096 := by omega
          have hki0 : (0 : Int) ≤ (((pc + 4 * n) / 4 : Nat) : Int) := by omega
          obtain ⟨kq, hkq⟩ : ∃ kq, (pc + 4 * n) / 4 = kq := ⟨_, rfl⟩
          have HKQ0 := Lib.hid hkq.symm
          rw [hkq] at td hki hki2 hki0 cw
          clear hkq
          go_wp2_with fail
          -- HEART
          refine (decodeOf_any _ ⟨HBE.out.1, by have := HBE.out.2; simpa using this⟩ wr).mono ?_
          rintro e w2 ⟨rfl, hk2⟩
          have hX : nth m pc n = Cd.decOf (be m (pc + 4 * n) 4) := rfl
          generalize Cd.decOf (be m (pc + 4 * n) 4) = X at *
          have hXo : X.op < 54 := by rw [← hX]; exact (Cd.ok_dec _).op
          have HX := Lib.hid hX
          have HKD0 := Lib.hid (show kdAt m pc n = Cd.kd X.op by unfold kdAt; rw [hX])
          clear hX
          obtain ⟨xo, xS, xT, xD, xi⟩ := X
          simp only [insC] at hXo ⊢
          have HK2 := Lib.hid hk2
          clear c0 c1 c2 cq cw hk2
          obtain ⟨f', hf'⟩ : ∃ f', most - n = f' + 1 := ⟨most - n - 1, by omega⟩
          have HFF := Lib.hid hf'
          clear hf'
          go_wp2_with fail
          have hbz := blk_alloc_new w2 (.cells #[.int .i64 xo, .int .i64 xS, .int .i64 xT, .int .i64 xD, .int .u32 xi] 39)
          have kz := (Keeps.refl (fun _ => False) w2).alloc (.cells #[.int .i64 xo, .int .i64 xS, .int .i64 xT, .int .i64 xD, .int .u32 xi] 39)
          generalize w2.alloc (.cells #[.int .i64 xo, .int .i64 xS, .int .i64 xT, .int .i64 xD, .int .u32 xi] 39) = w3 at *
          have HZL := Lib.hid HK2.out.size
          generalize w2.heap.size = z at *
          refine (kindOf_any xo hXo _).mono ?_
          rintro e w4 ⟨rfl, hk4⟩
          have HK4 := Lib.hid ((HK2.out.trans kz (fun _ _ h => h)).trans hk4 (fun _ _ h => h))
          have HZB := Lib.hid (at_end (i := ⟨0, 0, 0, 0, 0⟩) hbz hk4)
          clear hbz kz hk4
          have HF4 := Lib.hid (HF.out.quiet HK4.out)
          have HTS := Lib.hid (kd_test3 (Cd.kd xo) (kd_lt6 xo hXo))
          have HKD : Hid (kdAt m pc n = Cd.kd xo) := HKD0
          clear HKD0
          generalize Cd.kd xo = kx at *
          generalize (⟨(Cd.kindS kx).toArray⟩ : ByteArray) = ks at *
          obtain ⟨g0, g1, g2⟩ := HF4.out.cells
          by_cases hk4' : kx = 4
          · have u1 : (ks.toList == [116, 114, 97, 112]) = true := by rw [HTS.out.1]; simp [hk4']
            go_wp2_with fail
            go_meet
            exact HEX.out _ HK4.out (by rw [HFF.out]; exact go_stop (.inr (.inl (by rw [HKD.out]; exact hk4'))))
          · have u1 : (ks.toList == [116, 114, 97, 112]) = false := by rw [HTS.out.1]; simp [hk4']
            have HN4 := Lib.hid hk4'
            clear hk4'
            by_cases hk3 : kx = 3
            · have u2 : (ks.toList == [115, 116, 111, 114, 101]) = true := by rw [HTS.out.2.1]; simp [hk3]
              have u3 : (ks.toList == [98, 114, 97, 110, 99, 104]) = false := by rw [HTS.out.2.2]; simp [hk3]
              by_cases hs8 : st = 8
              · have u4 : ((st : Int) == 8) = true := by rw [hs8]; rfl
                have HS8 := Lib.hid hs8
                clear hs8
                go_wp2_with fail
                go_meet
                exact HEX.out _ HK4.out (by rw [HFF.out]; exact go_stop (.inr (.inr (by rw [HKD.out]; exact ⟨hk3, by have := HS8.out; omega⟩))))
              · have u4 : ((st : Int) == 8) = false := eqF (show ¬ (st : Int) = 8 by omega)
                have HS8 := Lib.hid hs8
                have HFU := Lib.hid (show ¬ ((16384 - pc) / 4 ≤ n ∨ kdAt m pc n = 4 ∨ (kdAt m pc n = 3 ∧ 8 ≤ st)) by rw [HKD.out]; have := HN4.out; have := HP.out; omega)
                have HB1 := Lib.hid (show kx ≠ 1 by omega)
                have HK3 := Lib.hid hk3
                clear hs8 hk3
                have HIF := Lib.hid (show (if kdAt m pc n = 3 then st + 1 else st) = st + 1 by rw [HKD.out]; rw [if_pos HK3.out])
                go_upto_region 24 with fail
                have HK5 := Lib.hid (HK4.out.trans ((Keeps.refl (fun _ => False) w4).alloc (.cells #[.int .i64 0, .int .i64 0, .int .i64 0, .int .i64 0, .int .u32 0] 39)) (fun _ _ h => h))
                have HZ5 := Lib.hid (at_end (i := ⟨0, 0, 0, 0, 0⟩) HZB.out ((Keeps.refl (fun _ => False) w4).alloc (.cells #[.int .i64 0, .int .i64 0, .int .i64 0, .int .i64 0, .int .u32 0] 39)))
                generalize w4.alloc (.cells #[.int .i64 0, .int .i64 0, .int .i64 0, .int .i64 0, .int .u32 0] 39) = wz at *
                have HF5 := Lib.hid (HF.out.quiet HK5.out)
                have HBW := Lib.hid (show b0 + 1 ≤ wz.heap.size by have := HF5.out.lt; omega)
                obtain ⟨d0, d1, d2⟩ := HF5.out.cells
                obtain ⟨⟨z0, z1, z2, z3, z4⟩, _⟩ := cells5 HZ5.out
                have hcn : ∀ j u, [.int .i64 xo, .int .i64 xS, .int .i64 xT, .int .i64 xD, .int .u32 xi][j]? = some u → (wz.alloc (.cells #[.int .i64 xo, .int .i64 xS, .int .i64 xT, .int .i64 xD, .int .u32 xi] 39)).cell? ((⟨wz.heap.size, 0, none⟩ : Addr).add j) = some u := fun j u h => cells_new wz _ _ j u h
                have hmx : n + 1 ≤ maxLen := by unfold maxLen; omega
                go_wp2_with (at_builtin; refine wpList_append_mine rfl (.tmp 113) (.tmp 115) 27 rfl (b0 + 1) 39 ii _ 5 40 Tryd.underlying27 hii hiz0 hiz1 hiz2 rfl (by decide) (.slice A (n) cpi) (n) (insL m pc (n)) rfl (HF5.out.ins.alloc _) ⟨wz.heap.size, 0, none⟩ 1 1 [.int .i64 xo, .int .i64 xS, .int .i64 xT, .int .i64 xD, .int .u32 xi] rfl rfl hcn (by simp [Value.oneCell']) hmx (by omega) (Nat.le_trans HBW.out (Keeps.size ((Keeps.refl (fun _ => False) wz).alloc _))) ?_; intro iv' w5 hown hgr hmv; obtain ⟨A', cp', rfl⟩ := owns_slice hown; have hk5 : Keeps (fun k => (Value.slice A (n) cpi).ownBlock = some k) wz w5 := ((Keeps.refl _ wz).alloc _).grown hgr (fun k hk _ => hk); have hb5 := (hk5.block (b0 + 1) HF5.out.lt (fun h => HF5.out.fi h)).trans HF5.out.box; have hc5 : w5.cell? ⟨b0 + 1, 1, none⟩ = some (.slice A (n) cpi) := (by simp [World.cell?, hb5]); have hf5 := frozen_of_block hb5 1)
                have hown' : w5.ownsRow (b0 + 1) 39 5 (.slice A' (n + 1) cp') (n + 1) (insL m pc n ++ (insC (nth m pc n)).toList) := by rw [HX.out]; exact hown
                have hmv5 : Moved wz (.slice A n cpi) (.slice A' (n + 1) cp') := hmv.of_le (Keeps.size ((Keeps.refl (fun _ => False) wz).alloc _))
                obtain ⟨F6, K6⟩ := HF5.out.addIns hk5 hown' hmv5
                have HR6 := Lib.hid (show RLoop wA (w5.setCell ⟨b0 + 1, 1, none⟩ (.slice A' (n + 1) cp')) (b0 + 1) (b0 + 1) pc m (n + 1) from ⟨_, F6, (HK.out.trans HK5.out (fun _ _ h => h.elim)).trans K6 (fun j _ h => by
                  rcases h with h | h
                  · omega
                  · exact (HF5.out.ins.lt j h).1)⟩)
                clear hown hown' hgr hmv hk5 hb5 hc5 hf5 hmv5 F6 K6 hcn
                generalize w5.setCell ⟨b0 + 1, 1, none⟩ (.slice A' (n + 1) cp') = w6 at *
                try (go_wp2_with fail)
                have hg := HG.out
                rw [HFF.out, go_on HFU.out (by rw [HKD.out]; exact HB1.out), HIF.out] at hg
                go_roundw
                case rel => exact ⟨n + 1, st + 1, by have := HLT.out; omega, by omega, by have := HS8.out; omega, by go_num, by go_num, HR6.out, by have := HFF.out; rw [show most - (n + 1) = f' by omega]; exact hg⟩
                case measure => simp [intOf]; omega
            · have u2 : (ks.toList == [115, 116, 111, 114, 101]) = false := by rw [HTS.out.2.1]; simp [hk3]
              have HFU := Lib.hid (show ¬ ((16384 - pc) / 4 ≤ n ∨ kdAt m pc n = 4 ∨ (kdAt m pc n = 3 ∧ 8 ≤ st)) by rw [HKD.out]; have := HN4.out; have := HP.out; omega)
              have HK3 := Lib.hid hk3
              clear hk3
              by_cases hk1 : kx = 1
              · have u3 : (ks.toList == [98, 114, 97, 110, 99, 104]) = true := by rw [HTS.out.2.2]; simp [hk1]
                have HB1 := Lib.hid hk1
                clear hk1
                have HNO := Lib.hid (fun (h : ¬ (n + 1 < (16384 - pc) / 4 ∧ 1 ≤ f' ∧ kdAt m pc (n + 1) ≠ 1 ∧ kdAt m pc (n + 1) ≠ 4 ∧ ¬ (kdAt m pc (n + 1) = 3 ∧ 8 ≤ st))) => show Fm.go (kdAt m pc) ((16384 - pc) / 4) (most - n) n st = n by rw [HFF.out]; exact go_no HFU.out (by rw [HKD.out]; exact HB1.out) h)
                have HZJ := (Keeps.refl (fun _ => False) w4).alloc (.cells #[.int .i64 0, .int .i64 0, .int .i64 0, .int .i64 0, .int .u32 0] 39)
                have HK5 := Lib.hid (HK4.out.trans HZJ (fun _ _ h => h))
                have HZ5 := Lib.hid (at_end (i := ⟨0, 0, 0, 0, 0⟩) HZB.out HZJ)
                have HJ5 := Lib.hid (blk_alloc_new w4 (.cells #[.int .i64 0, .int .i64 0, .int .i64 0, .int .i64 0, .int .u32 0] 39))
                have HJL := Lib.hid HK4.out.size
                clear HZJ
                have ng := HF4.out.lt
                by_cases hC1 : most < n + 2
                · have v1 : decide ((most : Int) < (n : Int) + 2) = true := decide_eq_true (by omega)
                  go_wp2_with fail
                  go_meet
                  exact HEX.out _ HK5.out (HNO.out (by have := HFF.out; omega))
                · have v1 : decide ((most : Int) < (n : Int) + 2) = false := decide_eq_false (by omega)
                  by_cases hC2 : 16384 ≤ pc + 4 * n + 4
                  · have v2 : decide (16384 ≤ (pc : Int) + 4 * (n : Int) + 4) = true := decide_eq_true (by omega)
                    go_wp2_with fail
                    go_meet
                    exact HEX.out _ HK5.out (HNO.out (by omega))
                  · have v2 : decide (16384 ≤ (pc : Int) + 4 * (n : Int) + 4) = false := decide_eq_false (by omega)
                    have HC12 := Lib.hid (show n + 1 < (16384 - pc) / 4 ∧ 1 ≤ f' by have := HFF.out; omega)
                    have HZNE := Lib.hid (show z < w4.heap.size from (Array.getElem?_eq_some_iff.1 HZB.out).1)
                    go_upto_region 18 with fail
                    clear v1 v2 g0 g1 g2 ng
                    generalize w4.alloc (.cells #[.int .i64 0, .int .i64 0, .int .i64 0, .int .i64 0, .int .u32 0] 39) = w5 at *
                    generalize w4.heap.size = zj at *
                    have cq := HK5.out.cell' (HEV.out wr HK.out).1 (fun h => h)
                    have HKQ := Lib.hid (show kq = (pc + 4 * n) / 4 from HKQ0.out)
                    have cw := HK5.out.cell' ((HEV.out wr HK.out).2 (kq + 1) (by have := HKQ.out; omega)) (fun h => h)
                    rw [show 4 * (kq + 1) = pc + 4 * (n + 1) by have := HKQ.out; omega] at cw
                    have HBE2 := Lib.hid (be_rng m (pc + 4 * (n + 1)) 4 (fun i hi => HM.out _ (by omega)))
                    have hk4096 : (kq : Int) + 1 < 4096 := by have := HKQ.out; omega
                    have hk40 : (0 : Int) ≤ (kq : Int) + 1 := by omega
                    go_wp2_with fail
                    refine (decodeOf_any _ ⟨HBE2.out.1, by have := HBE2.out.2; simpa using this⟩ w5).mono ?_
                    rintro e w6 ⟨rfl, hk6⟩
                    have hY : nth m pc (n + 1) = Cd.decOf (be m (pc + 4 * (n + 1)) 4) := rfl
                    generalize Cd.decOf (be m (pc + 4 * (n + 1)) 4) = Y at *
                    have hYo : Y.op < 54 := by rw [← hY]; exact (Cd.ok_dec _).op
                    have HY := Lib.hid hY
                    have HKY : Hid (kdAt m pc (n + 1) = Cd.kd Y.op) := Lib.hid (by unfold kdAt; rw [hY])
                    clear hY
                    obtain ⟨yo, yS, yT, yD, yi⟩ := Y
                    simp only [insC] at hYo ⊢
                    have HJ6 := Lib.hid (at_end (i := ⟨0, 0, 0, 0, 0⟩) HJ5.out hk6)
                    have HZ6 := Lib.hid (at_end (i := ⟨0, 0, 0, 0, 0⟩) HZ5.out hk6)
                    have HK6 := Lib.hid (HK5.out.trans hk6 (fun _ _ h => h))
                    obtain ⟨⟨j0, j1, j2, j3, j4⟩, i0', i1', i2', i3', i4'⟩ := cells5 HJ6.out
                    have H5 := Lib.hid (set5 (a' := .int .i64 yo) (b' := .int .i64 yS) (c' := .int .i64 yT) (d' := .int .i64 yD) (e' := .int .u32 yi) HJ6.out)
                    clear cq cw hk6
                    go_wp2_with fail
                    have HJ7 := Lib.hid H5.out.1
                    have HZ7 := Lib.hid ((H5.out.2.block z (Array.getElem?_eq_some_iff.1 HZ6.out).1 (fun h => by have := HZNE.out; omega)).trans HZ6.out)
                    have HK7 := Lib.hid (HK6.out.trans H5.out.2 (fun j hj h => by have := HJL.out; omega))
                    clear H5 j0 j1 j2 j3 j4 i0' i1' i2' i3' i4'
                    generalize ((((w6.setCell ⟨zj, 0, none⟩ (.int .i64 yo)).setCell ⟨zj, 1, none⟩ (.int .i64 yS)).setCell ⟨zj, 2, none⟩ (.int .i64 yT)).setCell ⟨zj, 3, none⟩ (.int .i64 yD)).setCell ⟨zj, 4, none⟩ (.int .u32 yi) = w7 at *
                    refine (kindOf_any yo hYo _).mono ?_
                    rintro e w8 ⟨rfl, hk8⟩
                    have HK8 := Lib.hid (HK7.out.trans hk8 (fun _ _ h => h))
                    have HZ8 := Lib.hid (at_end (i := ⟨0, 0, 0, 0, 0⟩) HZ7.out hk8)
                    have HJ8 := Lib.hid (at_end (i := ⟨0, 0, 0, 0, 0⟩) HJ7.out hk8)
                    clear hk8
                    have HTY := Lib.hid (kd_test3 (Cd.kd yo) (kd_lt6 yo hYo))
                    generalize Cd.kd yo = ky at *
                    generalize (⟨(Cd.kindS ky).toArray⟩ : ByteArray) = ls at *
                    by_cases hy4 : ky = 4
                    · have x1 : (ls.toList == [116, 114, 97, 112]) = true := by rw [HTY.out.1]; simp [hy4]
                      go_wp2_with fail
                      go_meet
                      exact HEX.out _ HK8.out (HNO.out (fun h => h.2.2.2.1 (by rw [HKY.out]; exact hy4)))
                    · have x1 : (ls.toList == [116, 114, 97, 112]) = false := by rw [HTY.out.1]; simp [hy4]
                      have HY4 := Lib.hid hy4
                      clear hy4
                      by_cases hy1 : ky = 1
                      · have x2 : (ls.toList == [98, 114, 97, 110, 99, 104]) = true := by rw [HTY.out.2.2]; simp [hy1]
                        go_wp2_with fail
                        go_meet
                        exact HEX.out _ HK8.out (HNO.out (fun h => h.2.2.1 (by rw [HKY.out]; exact hy1)))
                      · have x2 : (ls.toList == [98, 114, 97, 110, 99, 104]) = false := by rw [HTY.out.2.2]; simp [hy1]
                        have HY1 := Lib.hid hy1
                        clear hy1
                        by_cases hy3 : ky = 3 ∧ st = 8
                        · have x3 : (ls.toList == [115, 116, 111, 114, 101]) = true := by rw [HTY.out.2.1]; simp [hy3.1]
                          have x4 : ((st : Int) == 8) = true := by rw [hy3.2]; rfl
                          have HY3 := Lib.hid hy3
                          clear hy3
                          go_wp2_with fail
                          go_meet
                          exact HEX.out _ HK8.out (HNO.out (fun h => h.2.2.2.2 ⟨by rw [HKY.out]; exact HY3.out.1, by have := HY3.out.2; omega⟩))
                        · have HYES := Lib.hid (show Fm.go (kdAt m pc) ((16384 - pc) / 4) (most - n) n st = n + 2 by
                            rw [HFF.out]
                            exact go_yes HFU.out (by rw [HKD.out]; exact HB1.out) ⟨HC12.out.1, HC12.out.2, by rw [HKY.out]; exact HY1.out, by rw [HKY.out]; exact HY4.out, by rw [HKY.out]; omega⟩)
                          by_cases h3y : ky = 3
                          · have x3 : (ls.toList == [115, 116, 111, 114, 101]) = true := by rw [HTY.out.2.1]; simp [h3y]
                            have x4 : ((st : Int) == 8) = false := eqF (show ¬ (st : Int) = 8 by omega)
                            clear h3y
                            clear hy3
                            have HF8 := Lib.hid (HF.out.quiet HK8.out)
                            have HBW := Lib.hid (show b0 + 1 ≤ w8.heap.size by have := HF8.out.lt; omega)
                            obtain ⟨d0, d1, d2⟩ := HF8.out.cells
                            obtain ⟨⟨z0, z1, z2, z3, z4⟩, _⟩ := cells5 HZ8.out
                            have hcn : ∀ j u, [.int .i64 xo, .int .i64 xS, .int .i64 xT, .int .i64 xD, .int .u32 xi][j]? = some u → (w8.alloc (.cells #[.int .i64 xo, .int .i64 xS, .int .i64 xT, .int .i64 xD, .int .u32 xi] 39)).cell? ((⟨w8.heap.size, 0, none⟩ : Addr).add j) = some u := fun j u h => cells_new w8 _ _ j u h
                            have hmx : n + 1 ≤ maxLen := by unfold maxLen; omega
                            have HN2 := Lib.hid (show n + 2 ≤ most by omega)
                            have HN24 := Lib.hid (show n + 2 ≤ 24 by omega)
                            go_upto_region 26 with (at_builtin; refine wpList_append_mine rfl (.tmp 113) (.tmp 115) 27 rfl (b0 + 1) 39 ii _ 5 40 Tryd.underlying27 hii hiz0 hiz1 hiz2 rfl (by decide) (.slice A (n) cpi) (n) (insL m pc (n)) rfl (HF8.out.ins.alloc _) ⟨w8.heap.size, 0, none⟩ 1 1 [.int .i64 xo, .int .i64 xS, .int .i64 xT, .int .i64 xD, .int .u32 xi] rfl rfl hcn (by simp [Value.oneCell']) hmx (by omega) (Nat.le_trans HBW.out (Keeps.size ((Keeps.refl (fun _ => False) w8).alloc _))) ?_; intro iv' w5 hown hgr hmv; obtain ⟨A', cp', rfl⟩ := owns_slice hown; have hk5 : Keeps (fun k => (Value.slice A (n) cpi).ownBlock = some k) w8 w5 := ((Keeps.refl _ w8).alloc _).grown hgr (fun k hk _ => hk); have hb5 := (hk5.block (b0 + 1) HF8.out.lt (fun h => HF8.out.fi h)).trans HF8.out.box; have hc5 : w5.cell? ⟨b0 + 1, 1, none⟩ = some (.slice A (n) cpi) := (by simp [World.cell?, hb5]); have hf5 := frozen_of_block hb5 1)
                            have hown' : w5.ownsRow (b0 + 1) 39 5 (.slice A' (n + 1) cp') (n + 1) (insL m pc n ++ (insC (nth m pc n)).toList) := by rw [HX.out]; exact hown
                            have hmv5 : Moved w8 (.slice A n cpi) (.slice A' (n + 1) cp') := hmv.of_le (Keeps.size ((Keeps.refl (fun _ => False) w8).alloc _))
                            obtain ⟨F9, K9⟩ := HF8.out.addIns hk5 hown' hmv5
                            have HF9 := Lib.hid F9
                            have HJ9 := Lib.hid ((K9.block zj (Array.getElem?_eq_some_iff.1 HJ8.out).1 (fun h => by
                              have q1 := HJL.out
                              have q2 := HF.out.lt
                              rcases h with h | h
                              · omega
                              · have := (HF.out.ins.lt zj h).2; omega)).trans HJ8.out)
                            have HKA9 := Lib.hid (show Keeps (fun k => b0 + 1 ≤ k) wA (w5.setCell ⟨b0 + 1, 1, none⟩ (.slice A' (n + 1) cp')) from (HK.out.trans HK8.out (fun _ _ h => h.elim)).trans K9 (fun j _ h => by
                              rcases h with h | h
                              · omega
                              · exact (HF.out.ins.lt j h).1))
                            clear hown hown' hgr hmv hk5 hb5 hc5 hf5 hmv5 F9 K9 hcn d0 d1 d2 z0 z1 z2 z3 z4 hmx
                            generalize w5.setCell ⟨b0 + 1, 1, none⟩ (.slice A' (n + 1) cp') = w9 at *
                            have HBW9 := Lib.hid (show b0 + 1 ≤ w9.heap.size by have := HF9.out.lt; omega)
                            obtain ⟨d0, d1, d2⟩ := HF9.out.cells
                            obtain ⟨⟨z0, z1, z2, z3, z4⟩, _⟩ := cells5 HJ9.out
                            have hcn : ∀ j u, [.int .i64 yo, .int .i64 yS, .int .i64 yT, .int .i64 yD, .int .u32 yi][j]? = some u → (w9.alloc (.cells #[.int .i64 yo, .int .i64 yS, .int .i64 yT, .int .i64 yD, .int .u32 yi] 39)).cell? ((⟨w9.heap.size, 0, none⟩ : Addr).add j) = some u := fun j u h => cells_new w9 _ _ j u h
                            have hmx : n + 1 + 1 ≤ maxLen := by unfold maxLen; have := HN24.out; omega
                            go_wp2_with (at_builtin; refine wpList_append_mine rfl (.tmp 121) (.tmp 123) 27 rfl (b0 + 1) 39 ii _ 5 40 Tryd.underlying27 hii hiz0 hiz1 hiz2 rfl (by decide) (.slice A' (n + 1) cp') (n + 1) (insL m pc (n + 1)) rfl (HF9.out.ins.alloc _) ⟨w9.heap.size, 0, none⟩ 1 1 [.int .i64 yo, .int .i64 yS, .int .i64 yT, .int .i64 yD, .int .u32 yi] rfl rfl hcn (by simp [Value.oneCell']) hmx (by omega) (Nat.le_trans HBW9.out (Keeps.size ((Keeps.refl (fun _ => False) w9).alloc _))) ?_; intro iv' w5 hown hgr hmv; obtain ⟨A2, cp2, rfl⟩ := owns_slice hown; have hk5 : Keeps (fun k => (Value.slice A' (n + 1) cp').ownBlock = some k) w9 w5 := ((Keeps.refl _ w9).alloc _).grown hgr (fun k hk _ => hk); have hb5 := (hk5.block (b0 + 1) HF9.out.lt (fun h => HF9.out.fi h)).trans HF9.out.box; have hc5 : w5.cell? ⟨b0 + 1, 1, none⟩ = some (.slice A' (n + 1) cp') := (by simp [World.cell?, hb5]); have hf5 := frozen_of_block hb5 1)
                            have hown' : w5.ownsRow (b0 + 1) 39 5 (.slice A2 (n + 1 + 1) cp2) (n + 1 + 1) (insL m pc (n + 1) ++ (insC (nth m pc (n + 1))).toList) := by rw [HY.out]; exact hown
                            have hmv5 : Moved w9 (.slice A' (n + 1) cp') (.slice A2 (n + 1 + 1) cp2) := hmv.of_le (Keeps.size ((Keeps.refl (fun _ => False) w9).alloc _))
                            obtain ⟨F10, K10⟩ := HF9.out.addIns hk5 hown' hmv5
                            have HR := Lib.hid (show RLoop wA (w5.setCell ⟨b0 + 1, 1, none⟩ (.slice A2 (n + 1 + 1) cp2)) (b0 + 1) (b0 + 1) pc m (n + 2) from ⟨_, F10, HKA9.out.trans K10 (fun j _ h => by
                              rcases h with h | h
                              · omega
                              · exact (HF9.out.ins.lt j h).1)⟩)
                            clear hown hown' hgr hmv hk5 hb5 hc5 hf5 hmv5 F10 K10 hcn d0 d1 d2 z0 z1 z2 z3 z4 hmx
                            generalize w5.setCell ⟨b0 + 1, 1, none⟩ (.slice A2 (n + 1 + 1) cp2) = w10 at *
                            try (go_wp2_with fail)
                            go_meet
                            have hN2 : N = n + 2 := by have := HG.out; rw [HYES.out] at this; exact this.symm
                            rw [hN2]
                            exact ⟨by congr 1, HR.out⟩
                          · have x3 : (ls.toList == [115, 116, 111, 114, 101]) = false := by rw [HTY.out.2.1]; simp [h3y]
                            clear h3y
                            clear hy3
                            have HF8 := Lib.hid (HF.out.quiet HK8.out)
                            have HBW := Lib.hid (show b0 + 1 ≤ w8.heap.size by have := HF8.out.lt; omega)
                            obtain ⟨d0, d1, d2⟩ := HF8.out.cells
                            obtain ⟨⟨z0, z1, z2, z3, z4⟩, _⟩ := cells5 HZ8.out
                            have hcn : ∀ j u, [.int .i64 xo, .int .i64 xS, .int .i64 xT, .int .i64 xD, .int .u32 xi][j]? = some u → (w8.alloc (.cells #[.int .i64 xo, .int .i64 xS, .int .i64 xT, .int .i64 xD, .int .u32 xi] 39)).cell? ((⟨w8.heap.size, 0, none⟩ : Addr).add j) = some u := fun j u h => cells_new w8 _ _ j u h
                            have hmx : n + 1 ≤ maxLen := by unfold maxLen; omega
                            have HN2 := Lib.hid (show n + 2 ≤ most by omega)
                            have HN24 := Lib.hid (show n + 2 ≤ 24 by omega)
                            go_upto_region 26 with (at_builtin; refine wpList_append_mine rfl (.tmp 113) (.tmp 115) 27 rfl (b0 + 1) 39 ii _ 5 40 Tryd.underlying27 hii hiz0 hiz1 hiz2 rfl (by decide) (.slice A (n) cpi) (n) (insL m pc (n)) rfl (HF8.out.ins.alloc _) ⟨w8.heap.size, 0, none⟩ 1 1 [.int .i64 xo, .int .i64 xS, .int .i64 xT, .int .i64 xD, .int .u32 xi] rfl rfl hcn (by simp [Value.oneCell']) hmx (by omega) (Nat.le_trans HBW.out (Keeps.size ((Keeps.refl (fun _ => False) w8).alloc _))) ?_; intro iv' w5 hown hgr hmv; obtain ⟨A', cp', rfl⟩ := owns_slice hown; have hk5 : Keeps (fun k => (Value.slice A (n) cpi).ownBlock = some k) w8 w5 := ((Keeps.refl _ w8).alloc _).grown hgr (fun k hk _ => hk); have hb5 := (hk5.block (b0 + 1) HF8.out.lt (fun h => HF8.out.fi h)).trans HF8.out.box; have hc5 : w5.cell? ⟨b0 + 1, 1, none⟩ = some (.slice A (n) cpi) := (by simp [World.cell?, hb5]); have hf5 := frozen_of_block hb5 1)
                            have hown' : w5.ownsRow (b0 + 1) 39 5 (.slice A' (n + 1) cp') (n + 1) (insL m pc n ++ (insC (nth m pc n)).toList) := by rw [HX.out]; exact hown
                            have hmv5 : Moved w8 (.slice A n cpi) (.slice A' (n + 1) cp') := hmv.of_le (Keeps.size ((Keeps.refl (fun _ => False) w8).alloc _))
                            obtain ⟨F9, K9⟩ := HF8.out.addIns hk5 hown' hmv5
                            have HF9 := Lib.hid F9
                            have HJ9 := Lib.hid ((K9.block zj (Array.getElem?_eq_some_iff.1 HJ8.out).1 (fun h => by
                              have q1 := HJL.out
                              have q2 := HF.out.lt
                              rcases h with h | h
                              · omega
                              · have := (HF.out.ins.lt zj h).2; omega)).trans HJ8.out)
                            have HKA9 := Lib.hid (show Keeps (fun k => b0 + 1 ≤ k) wA (w5.setCell ⟨b0 + 1, 1, none⟩ (.slice A' (n + 1) cp')) from (HK.out.trans HK8.out (fun _ _ h => h.elim)).trans K9 (fun j _ h => by
                              rcases h with h | h
                              · omega
                              · exact (HF.out.ins.lt j h).1))
                            clear hown hown' hgr hmv hk5 hb5 hc5 hf5 hmv5 F9 K9 hcn d0 d1 d2 z0 z1 z2 z3 z4 hmx
                            generalize w5.setCell ⟨b0 + 1, 1, none⟩ (.slice A' (n + 1) cp') = w9 at *
                            have HBW9 := Lib.hid (show b0 + 1 ≤ w9.heap.size by have := HF9.out.lt; omega)
                            obtain ⟨d0, d1, d2⟩ := HF9.out.cells
                            obtain ⟨⟨z0, z1, z2, z3, z4⟩, _⟩ := cells5 HJ9.out
                            have hcn : ∀ j u, [.int .i64 yo, .int .i64 yS, .int .i64 yT, .int .i64 yD, .int .u32 yi][j]? = some u → (w9.alloc (.cells #[.int .i64 yo, .int .i64 yS, .int .i64 yT, .int .i64 yD, .int .u32 yi] 39)).cell? ((⟨w9.heap.size, 0, none⟩ : Addr).add j) = some u := fun j u h => cells_new w9 _ _ j u h
                            have hmx : n + 1 + 1 ≤ maxLen := by unfold maxLen; have := HN24.out; omega
                            go_wp2_with (at_builtin; refine wpList_append_mine rfl (.tmp 121) (.tmp 123) 27 rfl (b0 + 1) 39 ii _ 5 40 Tryd.underlying27 hii hiz0 hiz1 hiz2 rfl (by decide) (.slice A' (n + 1) cp') (n + 1) (insL m pc (n + 1)) rfl (HF9.out.ins.alloc _) ⟨w9.heap.size, 0, none⟩ 1 1 [.int .i64 yo, .int .i64 yS, .int .i64 yT, .int .i64 yD, .int .u32 yi] rfl rfl hcn (by simp [Value.oneCell']) hmx (by omega) (Nat.le_trans HBW9.out (Keeps.size ((Keeps.refl (fun _ => False) w9).alloc _))) ?_; intro iv' w5 hown hgr hmv; obtain ⟨A2, cp2, rfl⟩ := owns_slice hown; have hk5 : Keeps (fun k => (Value.slice A' (n + 1) cp').ownBlock = some k) w9 w5 := ((Keeps.refl _ w9).alloc _).grown hgr (fun k hk _ => hk); have hb5 := (hk5.block (b0 + 1) HF9.out.lt (fun h => HF9.out.fi h)).trans HF9.out.box; have hc5 : w5.cell? ⟨b0 + 1, 1, none⟩ = some (.slice A' (n + 1) cp') := (by simp [World.cell?, hb5]); have hf5 := frozen_of_block hb5 1)
                            have hown' : w5.ownsRow (b0 + 1) 39 5 (.slice A2 (n + 1 + 1) cp2) (n + 1 + 1) (insL m pc (n + 1) ++ (insC (nth m pc (n + 1))).toList) := by rw [HY.out]; exact hown
                            have hmv5 : Moved w9 (.slice A' (n + 1) cp') (.slice A2 (n + 1 + 1) cp2) := hmv.of_le (Keeps.size ((Keeps.refl (fun _ => False) w9).alloc _))
                            obtain ⟨F10, K10⟩ := HF9.out.addIns hk5 hown' hmv5
                            have HR := Lib.hid (show RLoop wA (w5.setCell ⟨b0 + 1, 1, none⟩ (.slice A2 (n + 1 + 1) cp2)) (b0 + 1) (b0 + 1) pc m (n + 2) from ⟨_, F10, HKA9.out.trans K10 (fun j _ h => by
                              rcases h with h | h
                              · omega
                              · exact (HF9.out.ins.lt j h).1)⟩)
                            clear hown hown' hgr hmv hk5 hb5 hc5 hf5 hmv5 F10 K10 hcn d0 d1 d2 z0 z1 z2 z3 z4 hmx
                            generalize w5.setCell ⟨b0 + 1, 1, none⟩ (.slice A2 (n + 1 + 1) cp2) = w10 at *
                            try (go_wp2_with fail)
                            go_meet
                            have hN2 : N = n + 2 := by have := HG.out; rw [HYES.out] at this; exact this.symm
                            rw [hN2]
                            exact ⟨by congr 1, HR.out⟩
              · have u3 : (ks.toList == [98, 114, 97, 110, 99, 104]) = false := by rw [HTS.out.2.2]; simp [hk1]
                have HB1 := Lib.hid hk1
                clear hk1
                have HIF := Lib.hid (show (if kdAt m pc n = 3 then st + 1 else st) = st by rw [HKD.out]; rw [if_neg HK3.out])
                go_upto_region 24 with fail
                have HK5 := Lib.hid (HK4.out.trans ((Keeps.refl (fun _ => False) w4).alloc (.cells #[.int .i64 0, .int .i64 0, .int .i64 0, .int .i64 0, .int .u32 0] 39)) (fun _ _ h => h))
                have HZ5 := Lib.hid (at_end (i := ⟨0, 0, 0, 0, 0⟩) HZB.out ((Keeps.refl (fun _ => False) w4).alloc (.cells #[.int .i64 0, .int .i64 0, .int .i64 0, .int .i64 0, .int .u32 0] 39)))
                generalize w4.alloc (.cells #[.int .i64 0, .int .i64 0, .int .i64 0, .int .i64 0, .int .u32 0] 39) = wz at *
                have HF5 := Lib.hid (HF.out.quiet HK5.out)
                have HBW := Lib.hid (show b0 + 1 ≤ wz.heap.size by have := HF5.out.lt; omega)
                obtain ⟨d0, d1, d2⟩ := HF5.out.cells
                obtain ⟨⟨z0, z1, z2, z3, z4⟩, _⟩ := cells5 HZ5.out
                have hcn : ∀ j u, [.int .i64 xo, .int .i64 xS, .int .i64 xT, .int .i64 xD, .int .u32 xi][j]? = some u → (wz.alloc (.cells #[.int .i64 xo, .int .i64 xS, .int .i64 xT, .int .i64 xD, .int .u32 xi] 39)).cell? ((⟨wz.heap.size, 0, none⟩ : Addr).add j) = some u := fun j u h => cells_new wz _ _ j u h
                have hmx : n + 1 ≤ maxLen := by unfold maxLen; omega
                go_wp2_with (at_builtin; refine wpList_append_mine rfl (.tmp 113) (.tmp 115) 27 rfl (b0 + 1) 39 ii _ 5 40 Tryd.underlying27 hii hiz0 hiz1 hiz2 rfl (by decide) (.slice A (n) cpi) (n) (insL m pc (n)) rfl (HF5.out.ins.alloc _) ⟨wz.heap.size, 0, none⟩ 1 1 [.int .i64 xo, .int .i64 xS, .int .i64 xT, .int .i64 xD, .int .u32 xi] rfl rfl hcn (by simp [Value.oneCell']) hmx (by omega) (Nat.le_trans HBW.out (Keeps.size ((Keeps.refl (fun _ => False) wz).alloc _))) ?_; intro iv' w5 hown hgr hmv; obtain ⟨A', cp', rfl⟩ := owns_slice hown; have hk5 : Keeps (fun k => (Value.slice A (n) cpi).ownBlock = some k) wz w5 := ((Keeps.refl _ wz).alloc _).grown hgr (fun k hk _ => hk); have hb5 := (hk5.block (b0 + 1) HF5.out.lt (fun h => HF5.out.fi h)).trans HF5.out.box; have hc5 : w5.cell? ⟨b0 + 1, 1, none⟩ = some (.slice A (n) cpi) := (by simp [World.cell?, hb5]); have hf5 := frozen_of_block hb5 1)
                have hown' : w5.ownsRow (b0 + 1) 39 5 (.slice A' (n + 1) cp') (n + 1) (insL m pc n ++ (insC (nth m pc n)).toList) := by rw [HX.out]; exact hown
                have hmv5 : Moved wz (.slice A n cpi) (.slice A' (n + 1) cp') := hmv.of_le (Keeps.size ((Keeps.refl (fun _ => False) wz).alloc _))
                obtain ⟨F6, K6⟩ := HF5.out.addIns hk5 hown' hmv5
                have HR6 := Lib.hid (show RLoop wA (w5.setCell ⟨b0 + 1, 1, none⟩ (.slice A' (n + 1) cp')) (b0 + 1) (b0 + 1) pc m (n + 1) from ⟨_, F6, (HK.out.trans HK5.out (fun _ _ h => h.elim)).trans K6 (fun j _ h => by
                  rcases h with h | h
                  · omega
                  · exact (HF5.out.ins.lt j h).1)⟩)
                clear hown hown' hgr hmv hk5 hb5 hc5 hf5 hmv5 F6 K6 hcn
                generalize w5.setCell ⟨b0 + 1, 1, none⟩ (.slice A' (n + 1) cp') = w6 at *
                try (go_wp2_with fail)
                have hg := HG.out
                rw [HFF.out, go_on HFU.out (by rw [HKD.out]; exact HB1.out), HIF.out] at hg
                go_roundw
                case rel => exact ⟨n + 1, st, by have := HLT.out; omega, by omega, by omega, by go_num, by go_num, HR6.out, by have := HFF.out; rw [show most - (n + 1) = f' by omega]; exact hg⟩
                case measure => simp [intOf]; omega
          -- END
        · have HP := Lib.hid hp
          obtain ⟨f', hf'⟩ : ∃ f', most - n = f' + 1 := ⟨most - n - 1, by omega⟩
          have HFF := Lib.hid hf'
          clear hf'
          go_wp2_with fail
          go_meet
          exact HEX.out _ (Keeps.refl _ _) (by rw [HFF.out]; exact go_stop (.inl (by have := HP.out; omega)))
      · obtain rfl : n = most := by omega
        go_wp2_with fail
        go_meet
        exact HEX.out _ (Keeps.refl _ _) (by rw [Nat.sub_self]; rfl)
  case rest =>
    obtain ⟨rfl, ivE, hFE, hkE⟩ := hcut
    have HFE := Lib.hid hFE
    have HKE := Lib.hid hkE
    have HBE := Lib.hid ((hkE.block b0 (by have := HS0.out; omega) (by omega)).trans HB0.out)
    clear hFE hkE
    obtain ⟨⟨AE, cpE, rfl⟩, _⟩ := HFE.out.slices
    obtain ⟨c0, c1, c2⟩ := HFE.out.cells
    by_cases hN0 : N = 0
    · subst hN0
      obtain ⟨⟨r0, r1, r2⟩, e0, e1, e2⟩ := cells3 HBE.out
      have H3 := Lib.hid (set3 (a' := .int .u32 0) (b' := .slice none 0 0) (c' := .slice none 0 0) HBE.out)
      go_wp2_with fail
      refine bodyPost_ret (results_reg rfl _ _ b0 #[.int .u32 0, .slice none 0 0, .slice none 0 0] rfl ?_ rfl) rfl (.inl ⟨rfl, rfl, ?_⟩)
      · exact H3.out.1
      · exact (HK0.out.trans HKE.out (fun j hj h => by have := HWB.out; omega)).trans H3.out.2 (fun j hj h => by have := HWB.out; omega)
    · have v0 : ((N : Int) == 0) = false := eqF (show ¬ (N : Int) = 0 by omega)
      have HN0 := Lib.hid hN0
      have HPG := Lib.hid (show Fm.pages pc N = List.range' (pc / 256) ((pc + 4 * (N - 1)) / 256 - pc / 256 + 1) from if_neg hN0)
      clear hN0
      have HNL := Lib.hid (show N ≤ 24 by
        have h1 := Fm.go_le (kdAt m pc) ((16384 - pc) / 4) most 0 0
        have h2 : Fm.go (kdAt m pc) ((16384 - pc) / 4) most 0 0 = N := hN.out
        omega)
      have HLL := Lib.hid (show ∀ k, (pc / 256 + k) * 256 < pc + 4 * N ↔ k < (pc + 4 * (N - 1)) / 256 - pc / 256 + 1 by
        intro k
        have := HN0.out
        omega)
      have hL3 : (pc + 4 * (N - 1)) / 256 - pc / 256 + 1 ≤ 2 := by have := HNL.out; omega
      generalize (pc + 4 * (N - 1)) / 256 - pc / 256 + 1 = L at *
      obtain ⟨p0, hp0⟩ : ∃ p0, pc / 256 = p0 := ⟨_, rfl⟩
      have hp64 : p0 < 64 := by omega
      have td0 : (pc : Int) / 256 = (p0 : Int) := by rw [← hp0]; push_cast; rfl
      rw [hp0] at HLL HPG
      have HP0 := Lib.hid hp0
      clear hp0
      have HNB := Lib.hid (show wc.heap.size ≠ 0 ∧ b0 + 1 < wc.heap.size from ⟨by have := HFE.out.lt; omega, HFE.out.lt⟩)
      go_wp2_with fail
      clear td0
      go_loopw [16] (fun s16 wr => ∃ (k : Nat) (pv : Value), k ≤ L ∧ s16 = .int .i64 ((p0 : Int) + (k : Int)) ∧ RF wr (b0 + 1) (b0 + 1) pc (.slice AE N cpE) pv N (List.range' p0 k) m ∧ Keeps (fun j => b0 + 1 ≤ j) wc wr) (fun s16 _ => 1000 - (intOf s16).toNat)
      case atStart => exact ⟨0, .slice none 0 0, by omega, by simp, HFE.out, Keeps.refl _ _⟩
      case round =>
        obtain ⟨k, pv, hkL, rfl, hF, hK⟩ := hrel
        have HF := Lib.hid hF
        have HK := Lib.hid hK
        obtain ⟨c0, c1, c2⟩ := hF.cells
        obtain ⟨_, ⟨A, cp, hpv⟩⟩ := hF.slices
        rw [List.length_range'] at hpv
        subst hpv
        clear hF hK
        by_cases hlt : k < L
        · have hc : (p0 + k) * 256 < pc + 4 * N := (HLL.out k).2 hlt
          have tc : decide (((p0 : Int) + (k : Int)) * 256 < (pc : Int) + 4 * (N : Int)) = true := decide_eq_true (by omega)
          have HBW := Lib.hid (show b0 + 1 ≤ wr.heap.size by have := HF.out.lt; omega)
          have hcn : ∀ j u, [Value.int .i64 ((p0 : Int) + (k : Int))][j]? = some u → (wr.alloc (.cells #[.int .i64 ((p0 : Int) + (k : Int))] 3)).cell? ((⟨wr.heap.size, 0, none⟩ : Addr).add j) = some u := fun j u h => cells_new wr _ _ j u h
          have hmx : k + 1 ≤ maxLen := by unfold maxLen; omega
          have HLT := Lib.hid hlt
          clear hc
          go_wp2_with (at_builtin; refine wpList_append_mine rfl (.tmp 147) (.tmp 149) 28 rfl (b0 + 1) 3 i0 _ 1 8 Tryd.underlying28 hi hz0 hz1 hz2 rfl (by decide) (.slice A k cp) k (pageL (List.range' p0 k)) rfl (by have := HF.out.pg; rw [List.length_range'] at this; exact this.alloc _) ⟨wr.heap.size, 0, none⟩ 1 1 [.int .i64 ((p0 : Int) + (k : Int))] rfl rfl hcn (by simp [Value.oneCell']) hmx (by omega) (Nat.le_trans HBW.out (Keeps.size ((Keeps.refl (fun _ => False) wr).alloc _))) ?_; intro pv' w5 hown hgr hmv; obtain ⟨A', cp', rfl⟩ := owns_slice hown; have hk5 : Keeps (fun k' => (Value.slice A k cp).ownBlock = some k') wr w5 := ((Keeps.refl _ wr).alloc _).grown hgr (fun k hk _ => hk); have hb5 := (hk5.block (b0 + 1) HF.out.lt (fun h => HF.out.fp h)).trans HF.out.box; have hc5 : w5.cell? ⟨b0 + 1, 2, none⟩ = some (.slice A k cp) := (by simp [World.cell?, hb5]); have hf5 := frozen_of_block hb5 2)
          have hown' : w5.ownsRow (b0 + 1) 3 1 (.slice A' (k + 1) cp') ((List.range' p0 k).length + 1) (pageL (List.range' p0 k) ++ [.int .i64 ((p0 + k : Nat) : Int)]) := by rw [List.length_range']; push_cast; exact hown
          have hmv5 : Moved wr (.slice A k cp) (.slice A' (k + 1) cp') := hmv.of_le (Keeps.size ((Keeps.refl (fun _ => False) wr).alloc _))
          obtain ⟨F6, K6⟩ := HF.out.addPage (p0 + k) hk5 hown' hmv5
          have HF6 := Lib.hid (show RF (w5.setCell ⟨b0 + 1, 2, none⟩ (.slice A' (k + 1) cp')) (b0 + 1) (b0 + 1) pc (.slice AE N cpE) (.slice A' (k + 1) cp') N (List.range' p0 (k + 1)) m by
            rw [List.range'_concat, Nat.one_mul]
            exact F6)
          have HK6 := Lib.hid (HK.out.trans K6 (fun j _ h => by
            rcases h with h | h
            · omega
            · exact (HF.out.pg.lt j h).1))
          clear hown hown' hgr hmv hk5 hb5 hc5 hf5 hmv5 F6 K6 hcn tc
          generalize w5.setCell ⟨b0 + 1, 2, none⟩ (.slice A' (k + 1) cp') = w6 at *
          try (go_wp2_with fail)
          go_roundw
          case rel => exact ⟨k + 1, _, by have := HLT.out; omega, by go_num, HF6.out, HK6.out⟩
          case measure => simp [intOf]; omega
        · obtain rfl : k = L := by omega
          have hc : ¬ (p0 + k) * 256 < pc + 4 * N := fun h => hlt ((HLL.out k).1 h)
          have tc : decide (((p0 : Int) + (k : Int)) * 256 < (pc : Int) + 4 * (N : Int)) = false := decide_eq_false (by omega)
          clear hc
          have HBR := Lib.hid ((HK.out.block b0 (by have := HNB.out; omega) (by omega)).trans HBE.out)
          obtain ⟨⟨r0, r1, r2⟩, e0, e1, e2⟩ := cells3 HBR.out
          have H3 := Lib.hid (set3 (a' := .int .u32 pc) (b' := .slice AE N cpE) (c' := .slice A k cp) HBR.out)
          go_wp2_with fail
          refine bodyPost_ret (results_reg rfl _ _ b0 #[.int .u32 pc, .slice AE N cpE, .slice A k cp] rfl H3.out.1 rfl) rfl (.inr ⟨HN0.out, _, _, rfl, ?_, ?_, ?_⟩)
          · exact ownsRow_base (owns_keep HF.out.ins H3.out.2 (fun g hg e => by have := (HF.out.ins.lt g hg).1; omega)) (by have := HWB.out; omega)
          · rw [HPG.out]
            exact ownsRow_base (owns_keep HF.out.pg H3.out.2 (fun g hg e => by have := (HF.out.pg.lt g hg).1; omega)) (by have := HWB.out; omega)
          · exact ((HK0.out.trans HKE.out (fun j hj h => by have := HWB.out; omega)).trans HK.out (fun j hj h => by have := HWB.out; omega)).trans H3.out.2 (fun j hj h => by have := HWB.out; omega)
end Go.Proofs.YtlbdkcnbgdmpaaaDoor

/- RefFormUse -/
/- What the reference's FormOf gives. -/
namespace Go.Proofs.YtlbdkcnbgdmpaaaDoor
open Go.RowKit Go.Deep
set_option linter.unusedVariables false

def RFormOut (w : World) (m : Nat → Int) (pc most : Int) (e : Ending) (w' : World) : Prop :=
  (formE m pc most ≠ 0 ∧ e = .returned (.tuple #[noRegion, .int .i64 (formE m pc most)]) ∧ Keeps (fun _ => False) w w') ∨
  (formE m pc most = 0 ∧ ∃ iv pv, e = .returned (.tuple #[.agg #[.int .u32 pc, iv, pv], .int .i64 0]) ∧ w'.ownsRow w.heap.size 39 5 iv (formN m pc.toNat most.toNat) (insL m pc.toNat (formN m pc.toNat most.toNat)) ∧
    w'.ownsRow w.heap.size 3 1 pv (Fm.pages pc.toNat (formN m pc.toNat most.toNat)).length (pageL (Fm.pages pc.toNat (formN m pc.toNat most.toNat))) ∧ Keeps (fun _ => False) w w')
theorem formOf_any (q wb tb hb : Nat) (m : Nat → Int) (wt ht : Nat → Bool) (pc most : Int) (w : World) (R : RefAt w q wb tb hb m wt ht) (hpc : 0 ≤ pc ∧ pc < 4294967296) :
    Calls Tryd.prog 17 #[.pointer (some ⟨q, 0, none⟩), .int .u32 pc, .int .i64 most] w fun e w' => RFormOut w m pc most e w' := by
  unfold RFormOut
  by_cases hc : formC pc most = 0
  · have h1 : ¬ (most < 1 ∨ 24 < most) := fun h => by rw [formC, if_pos h] at hc; omega
    have h3 : pc % 4 = 0 := by
      by_cases h : pc % 4 = 0
      · exact h
      · rw [formC, if_neg h1, if_pos h] at hc; omega
    have h4 : ¬ 16384 ≤ pc := fun h => by rw [formC, if_neg h1, if_neg (by omega), if_pos h] at hc; omega
    obtain ⟨p, rfl⟩ := Int.eq_ofNat_of_zero_le hpc.1
    obtain ⟨k, rfl⟩ := Int.eq_ofNat_of_zero_le (show 0 ≤ most by omega)
    refine (formOf_walk q wb m p k w (by simp [World.cell?, R.raw.box]) (fun i hi => R.raw.words.cell hi) R.rng (by omega) (by omega) (by omega) (by omega) _ (Lib.hid rfl)).mono fun e w' h => ?_
    rw [Int.toNat_natCast, Int.toNat_natCast]
    rcases h with ⟨hN, h⟩ | ⟨hN, h⟩
    · have e : formE m p k = 6 := by rw [formE, if_neg h1, if_neg (by omega), if_neg h4, Int.toNat_natCast, Int.toNat_natCast, if_pos hN]
      rw [e]
      exact .inl ⟨by decide, h⟩
    · have e : formE m p k = 0 := by rw [formE, if_neg h1, if_neg (by omega), if_neg h4, Int.toNat_natCast, Int.toNat_natCast, if_neg hN]
      rw [e]
      exact .inr ⟨rfl, h⟩
  · have e : formE m pc most = formC pc most := by
      unfold formC at hc ⊢
      unfold formE
      split
      · rfl
      · split
        · rfl
        · split
          · rfl
          · rename_i h1 h2 h3
            rw [if_neg h1, if_neg h2, if_neg h3] at hc
            exact absurd rfl hc
    rw [e]
    exact (formOf_bad _ pc most w _ rfl hc hpc).mono fun e w' h => .inl ⟨hc, h⟩
end Go.Proofs.YtlbdkcnbgdmpaaaDoor
