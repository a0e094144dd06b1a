
/- The walk of former.branch. -/
import Derived.Test.YtlbdkcnbgdmpaaaDoorFormTake
import Derived.Deep.CutRange
import Derived.StillTailTactics
import Derived.Deep.DeepCutAuto
namespace Go.Proofs.YtlbdkcnbgdmpaaaDoor
open Go.RowKit Go.Deep
set_option linter.unusedVariables false

theorem next_at2 (B f r : Nat) (most : Int) (pc : Nat) (iv pv : Value) (n : Nat) (ps : List Nat) (st : Nat) (m : Nat → Int) (w wc : World) (F : FAt w B f r most pc iv pv n ps st m) (hk : Keeps (fun _ => False) w wc) (hp : pc + 4 * n < 4294967296) :
    Calls Tryd.prog 33 #[.pointer (some ⟨f, 0, none⟩)] wc fun e w' => e = .returned (.int .u32 ((pc : Int) + 4 * n)) ∧ Keeps (fun _ => False) w w' ∧ Keeps (fun _ => False) wc w' :=
  (next_any B f r most pc iv pv n ps st m wc (F.quiet hk) hp).mono fun e w' ⟨he, hk2⟩ => ⟨by rw [he]; push_cast; rfl, hk.trans hk2 (fun _ _ h => h), hk2⟩
theorem Moved.trans {w w2 : World} {v v' v'' : Value} (h : Moved w v v') (h2 : Moved w2 v' v'') (hs : w.heap.size ≤ w2.heap.size) : Moved w v v'' := by
  rcases h2 with h2 | h2
  · rcases h with h | h
    · exact .inl (h2.trans h)
    · exact .inr fun k hk => h k (h2 ▸ hk)
  · exact .inr fun k hk => Nat.le_trans hs (h2 k hk)
theorem Moved.old {w : World} {v v' : Value} (h : Moved w v v') {k : Nat} (hk : v'.ownBlock = some k) (hl : k < w.heap.size) : v.ownBlock = some k := by
  rcases h with h | h
  · exact h ▸ hk
  · have := h k hk; omega
theorem Taken.quiet {w w0 w' : World} {B f r : Nat} {most : Int} {pc : Nat} {iv pv : Value} {n : Nat} {ps : List Nat} {st : Nat} {m : Nat → Int} (k : Keeps (fun _ => False) w0 w) (h : Taken w w' B f r most pc iv pv n ps st m) : Taken w0 w' B f r most pc iv pv n ps st m := by
  obtain ⟨iv', pv', h1, h2, h3, h4⟩ := h
  exact ⟨iv', pv', h1, h2.of_le k.size, h3.of_le k.size, Keeps.trans (k.mono (fun _ _ h => h.elim)) h4 (fun _ _ h => h)⟩
theorem Taken.trans {w w2 w' : World} {B f r : Nat} {most : Int} {pc : Nat} {iv pv iv2 pv2 : Value} {n : Nat} {ps : List Nat} {st : Nat} {m : Nat → Int} (hm1 : Moved w iv iv2) (hm2 : Moved w pv pv2) (hk : Keeps (fun k => k = f ∨ iv.ownBlock = some k ∨ pv.ownBlock = some k) w w2)
    (h : Taken w2 w' B f r most pc iv2 pv2 n ps st m) : Taken w w' B f r most pc iv pv n ps st m := by
  obtain ⟨iv', pv', h1, h2, h3, h4⟩ := h
  refine ⟨iv', pv', h1, hm1.trans h2 hk.size, hm2.trans h3 hk.size, Keeps.trans hk h4 (fun b hb h => ?_)⟩
  rcases h with h | h | h
  · exact .inl h
  · exact .inr (.inl (hm1.old h hb))
  · exact .inr (.inr (hm2.old h hb))
theorem pageStep_len (pc n : Nat) (ps : List Nat) : (pageStep pc n ps).length ≤ ps.length + 1 := by
  unfold pageStep
  split <;> simp
theorem alloc_kept {w w2 : World} {o : Obj} (hk : Keeps (fun _ => False) (w.alloc o) w2) : w2.heap[w.heap.size]? = some o ∧ w.heap.size < w2.heap.size :=
  ⟨(hk.block w.heap.size (by simp) (fun h => h)).trans (blk_alloc_new w o), by have := hk.size; simp at this; omega⟩
theorem alloc_kept2 {w w2 : World} {o : Obj} (hk : Keeps (fun _ => False) (w.alloc o).drew w2) : w2.heap[w.heap.size]? = some o ∧ w.heap.size < w2.heap.size :=
  ⟨(hk.block w.heap.size (by show _ < (w.alloc o).heap.size; simp) (fun h => h)).trans (blk_alloc_new w o), by have := hk.size; have h2 : (w.alloc o).drew.heap.size = w.heap.size + 1 := (by show (w.alloc o).heap.size = _; simp); omega⟩
theorem drew_heap (w : World) : w.drew.heap = w.heap := rfl
theorem kept_again {w w2 : World} {o : Obj} {z : Nat} (h : w.heap[z]? = some o ∧ z < w.heap.size) (hk : Keeps (fun _ => False) w w2) : w2.heap[z]? = some o ∧ z < w2.heap.size :=
  ⟨(hk.block z h.2 (fun h => h)).trans h.1, by have := hk.size; omega⟩
theorem kept_drew {w w2 : World} {o : Obj} {z : Nat} (h : w.heap[z]? = some o ∧ z < w.heap.size) (hk : Keeps (fun _ => False) w.drew w2) : w2.heap[z]? = some o ∧ z < w2.heap.size := kept_again (w := w.drew) h hk
/-- the next place's instruction, whether memory has it or not -/
def Nx (m : Nat → Int) (pc k : Nat) (X : Cd.Ins) (is : Bool) : Prop := (pc + 4 * k < 16384 ∧ is = true ∧ X = nth m pc k) ∨ (¬ pc + 4 * k < 16384 ∧ is = false ∧ X = Cd.decOf 0)
theorem Nx.ex (m : Nat → Int) (pc k : Nat) : ∃ X is, Nx m pc k X is := by
  by_cases h : pc + 4 * k < 16384
  · exact ⟨_, _, .inl ⟨h, rfl, rfl⟩⟩
  · exact ⟨_, _, .inr ⟨h, rfl, rfl⟩⟩
theorem Nx.op {m : Nat → Int} {pc k : Nat} {X : Cd.Ins} {is : Bool} (h : Nx m pc k X is) : X.op < 54 := by
  rcases h with ⟨_, _, rfl⟩ | ⟨_, _, rfl⟩
  · exact (Cd.ok_dec _).op
  · exact (Cd.ok_dec _).op
theorem at_nx (r pb pw ph cp : Nat) (m : Nat → Int) (pc k : Nat) (X : Cd.Ins) (is : Bool) (w wc : World) (ea : Nat → Addr) (E : Errs3 w ea) (R : RamAt w r pb pw ph cp m) (hX : Nx m pc k X is) (h4 : pc % 4 = 0) (hl : pc + 4 * k < 4294967296) (a : Int) (ha : a = ((pc + 4 * k : Nat) : Int)) (hk : Keeps (fun _ => False) w wc) :
    Calls Tryd.prog 32 #[.pointer (some ⟨r, 0, none⟩), .int .u32 a] wc fun e w' => e = .returned (.tuple #[.agg (insC X), .bool is]) ∧ Keeps (fun _ => False) w w' ∧ Keeps (fun _ => False) wc w' := by
  subst ha
  rcases hX with ⟨h, rfl, rfl⟩ | ⟨h, rfl, rfl⟩
  · exact (at_ok r pb pw ph cp m (pc + 4 * k) wc (R.keep hk (fun h => h) (fun h => h)) (by omega) h).mono fun e w' ⟨he, h2⟩ => ⟨he, hk.trans h2 (fun _ _ h => h), h2⟩
  · exact (at_bad r (pc + 4 * k) wc ea (E.keep hk ⟨fun h => h, fun h => h, fun h => h⟩) (by omega) (by omega) hl).mono fun e w' ⟨he, h2⟩ => ⟨he, hk.trans h2 (fun _ _ h => h), h2⟩

set_option maxRecDepth 100000 in
set_option maxHeartbeats 4000000 in
theorem branch_any (B f r pb pw ph cp : Nat) (most : Nat) (pc : Nat) (iv pv : Value) (n : Nat) (ps : List Nat) (st : Nat) (m : Nat → Int) (w : World) (ea : Nat → Addr) (E : Errs3 w ea) (R : RamAt w r pb pw ph cp m) (F : FAt w B f r most pc iv pv n ps st m)
    (h4 : pc % 4 = 0) (hp : pc + 4 * n < 16384) (hn : n < 24) (hm : most ≤ 24) (hps : ps.length ≤ 20) (hst : st < 900) (N : Nat) (PS : List Nat)
    (hN : Hid (((pc + 4 * (n + 1) < 16384 ∧ n + 2 ≤ most ∧ kdAt m pc (n + 1) ≠ 1 ∧ kdAt m pc (n + 1) ≠ 4 ∧ ¬ (kdAt m pc (n + 1) = 3 ∧ 8 ≤ st)) ∧ N = n + 2 ∧ PS = pageStep pc (n + 1) (pageStep pc n ps)) ∨
      (¬ (pc + 4 * (n + 1) < 16384 ∧ n + 2 ≤ most ∧ kdAt m pc (n + 1) ≠ 1 ∧ kdAt m pc (n + 1) ≠ 4 ∧ ¬ (kdAt m pc (n + 1) = 3 ∧ 8 ≤ st)) ∧ N = n ∧ PS = ps))) :
    Calls Tryd.prog 35 #[.pointer (some ⟨f, 0, none⟩), .agg (insC (nth m pc n))] w fun e w' => e = .returned (.tuple #[]) ∧ ∃ st', Taken w w' B f r most pc iv pv N PS st' m := by
  obtain ⟨X, is, hX⟩ := Nx.ex m pc (n + 1)
  have hXo := hX.op
  have HXX := Lib.hid hX
  clear hX
  have HI := Lib.hid (show nth m pc n = nth m pc n from rfl)
  generalize hnn : nth m pc n = ins at *
  have HNN := Lib.hid hnn
  clear hnn HI
  obtain ⟨op, S, T, D, imm⟩ := ins
  obtain ⟨xo, xS, xT, xD, xi⟩ := X
  have hb := blk_alloc_new w (.cells #[.int .i64 op, .int .i64 S, .int .i64 T, .int .i64 D, .int .u32 imm] 39)
  have kb := (Keeps.refl (fun _ => False) w).alloc (.cells #[.int .i64 op, .int .i64 S, .int .i64 T, .int .i64 D, .int .u32 imm] 39)
  have hsb : (w.alloc (.cells #[.int .i64 op, .int .i64 S, .int .i64 T, .int .i64 D, .int .u32 imm] 39)).heap.size = w.heap.size + 1 := by simp
  have hfw : f < w.heap.size := (Array.getElem?_eq_some_iff.1 F.box).1
  have hiw : ∀ g, iv.ownBlock = some g → g < w.heap.size := fun g hg => owns_lt F.ins hg
  have hpw : ∀ g, pv.ownBlock = some g → g < w.heap.size := fun g hg => owns_lt F.pg hg
  have F1 := Lib.hid (F.quiet kb)
  have R1 := Lib.hid (R.keep kb (fun h => h) (fun h => h))
  have E1 := Lib.hid (E.keep kb ⟨fun h => h, fun h => h, fun h => h⟩)
  have HKB := Lib.hid kb
  unfold insC
  go_enter Tryd.func35, Tryd.ntmps35
  go_wp2_with fail
  generalize w.alloc (.cells #[.int .i64 op, .int .i64 S, .int .i64 T, .int .i64 D, .int .u32 imm] 39) = wb at *
  generalize hx : w.heap.size = x at *
  have HX := Lib.hid hx
  have HB := Lib.hid hb
  obtain ⟨c0, c1, c2, c3, c4, c5⟩ := F1.out.cells
  have HSB := Lib.hid hsb
  clear hx F R E kb hb hsb
  have c0a := cell_alloc c0 (.cells #[.int .i64 0, .int .i64 0, .int .i64 0, .int .i64 0, .int .u32 0] 39)
  go_upto_region 1 with fail
  go_cut [4, 5] from 7 to 17 (fun s4 s5 wx => ∃ z, s4 = .pointer (some ⟨z, 0, none⟩) ∧ s5 = .bool is ∧ wb.heap.size ≤ z ∧ wx.heap[z]? = some (.cells #[.int .i64 xo, .int .i64 xS, .int .i64 xT, .int .i64 xD, .int .u32 xi] 39 (0, 0)) ∧ Keeps (fun _ => False) wb wx)
  case first =>
    go_region_with (first
      | (go_at_call 33; refine (next_at2 B f r most pc iv pv n ps st m wb _ F1.out ?_ (by omega)).mono ?_; (repeat (first | exact Keeps.refl _ _ | assumption | apply Keeps.drew | apply Keeps.drewN | apply Keeps.alloc)); rintro e w2 ⟨rfl, hk2, hkn⟩; have d0 := hk2.cell' c0 (fun h => h); have d0a := cell_alloc d0 (.cells #[.int .i64 0, .int .i64 0, .int .i64 0, .int .i64 0, .int .u32 0] 39); (first | (have hz := alloc_kept2 hkn; (try simp only [drew_heap] at hz)) | (have hz := alloc_kept hkn; (try simp only [drew_heap] at hz)) | skip))
      | (go_at_call 32; refine (at_nx r pb pw ph cp m pc (n + 1) _ _ wb _ ea E1.out R1.out HXX.out h4 (by omega) _ (by rw [IntKind.wrap_u32']; push_cast; omega) ?_).mono ?_; (repeat (first | exact Keeps.refl _ _ | assumption | apply Keeps.drew | apply Keeps.drewN | apply Keeps.alloc)); rintro e w3 ⟨rfl, hk3, hka⟩; simp only [insC]; (first | (have hz3 := alloc_kept2 hka; (try simp only [drew_heap] at hz3); obtain ⟨⟨z0, z1, z2, z3, z4⟩, y0, y1, y2, y3, y4⟩ := cells5 hz3.1) | (have hz3 := alloc_kept hka; (try simp only [drew_heap] at hz3); obtain ⟨⟨z0, z1, z2, z3, z4⟩, y0, y1, y2, y3, y4⟩ := cells5 hz3.1) | (have hz3 := kept_again hz hka; obtain ⟨⟨z0, z1, z2, z3, z4⟩, y0, y1, y2, y3, y4⟩ := cells5 hz3.1) | skip)))
    all_goals (
      go_wp2_with fail
      go_meet
      have s2 := hk2.size
      first
        | exact ⟨_, rfl, rfl, hk3.size, blk_alloc_new _ _, hk3.alloc _⟩
        | exact ⟨_, rfl, rfl, by omega, (set5 hz3.1).1, Keeps.trans hk3 (set5 hz3.1).2 (fun k hk e => by omega)⟩)
  case rest =>
    obtain ⟨z, rfl, rfl, hz, hzb, hkx⟩ := hcut
    have HZ := Lib.hid hz
    clear c0 c1 c2 c3 c4 c5 c0a hz
    obtain ⟨⟨z0, z1, z2, z3, z4⟩, _⟩ := cells5 hzb
    go_wp2_with fail
    refine (Kind_any xo hXo _).mono ?_
    rintro e w4 ⟨rfl, hk4⟩
    have HK4 := Lib.hid (hkx.trans hk4 (fun _ _ h => h))
    have HZB := Lib.hid (at_end (i := ⟨0, 0, 0, 0, 0⟩) hzb hk4)
    have HF4 := Lib.hid (F1.out.quiet HK4.out)
    have HXB := Lib.hid (at_end (i := ⟨0, 0, 0, 0, 0⟩) HB.out HK4.out)
    have HKD := Lib.hid (show is = true → kdAt m pc (n + 1) = Cd.kd xo by
      rcases HXX.out with ⟨_, _, e⟩ | ⟨_, e, _⟩
      · intro _; unfold kdAt; rw [← e]
      · intro h; rw [e] at h; cases h)
    have HIS := Lib.hid (show is = true ↔ pc + 4 * (n + 1) < 16384 by
      rcases HXX.out with ⟨h, e, _⟩ | ⟨h, e, _⟩
      · exact ⟨fun _ => h, fun _ => e⟩
      · exact ⟨fun h2 => absurd (e.symm.trans h2) (by decide), fun h2 => absurd h2 h⟩)
    have HTS := Lib.hid (kd_test (Cd.kd xo) (kd_lt6 xo hXo))
    have no : ∀ w', Keeps (fun _ => False) w4 w' → (¬ (pc + 4 * (n + 1) < 16384 ∧ n + 2 ≤ most ∧ kdAt m pc (n + 1) ≠ 1 ∧ kdAt m pc (n + 1) ≠ 4 ∧ ¬ (kdAt m pc (n + 1) = 3 ∧ 8 ≤ st))) → ∃ st', Taken w w' B f r most pc iv pv N PS st' m := by
      intro w' hk hC
      rcases hN.out with ⟨h, _⟩ | ⟨_, rfl, rfl⟩
      · exact absurd h hC
      · exact ⟨st, iv, pv, HF4.out.quiet hk, .inl rfl, .inl rfl, Keeps.mono ((HKB.out.trans HK4.out (fun _ _ h => h)).trans hk (fun _ _ h => h)) (fun _ _ h => h.elim)⟩
    have NO := Lib.hid no
    clear no z0 z1 z2 z3 z4 hzb hkx hk4
    obtain ⟨c0, c1, c2, c3, c4, c5⟩ := HF4.out.cells
    obtain ⟨⟨A, cp0, rfl⟩, _⟩ := HF4.out.slices
    obtain ⟨⟨z0, z1, z2, z3, z4⟩, _⟩ := cells5 HZB.out
    have HSS := Lib.hid hst
    generalize hkk : Cd.kd xo = kx at *
    have HKK := Lib.hid hkk
    clear hkk
    generalize (⟨(Cd.kindS kx).toArray⟩ : ByteArray) = ks at *
    go_wp2_with fail
    cases is
    · go_quiet (fail)
      go_wp2_with fail
      refine bodyPost_end (results_none rfl _ _ _) rfl ⟨rfl, ?_⟩
      exact NO.out _ ((Keeps.refl _ w4).drewN _) (fun h => by have := HIS.out.2 h.1; cases this)
    · by_cases hmo : n + 2 ≤ most
      · have t0 : decide ((n : Int) + 2 ≤ most) = true := by simp; omega
        by_cases h1 : kx = 1
        · have t1 : (ks.toList == [98, 114, 97, 110, 99, 104]) = true := by rw [HTS.out.2.1]; simp [h1]
          go_quiet (fail)
          go_wp2_with fail
          refine bodyPost_end (results_none rfl _ _ _) rfl ⟨rfl, ?_⟩
          exact NO.out _ ((Keeps.refl _ w4).drewN _) (fun h => h.2.2.1 (by rw [HKD.out (by trivial), h1]))
        · have t1 : (ks.toList == [98, 114, 97, 110, 99, 104]) = false := by rw [HTS.out.2.1]; simp [h1]
          by_cases h4' : kx = 4
          · have t2 : (ks.toList == [116, 114, 97, 112]) = true := by rw [HTS.out.2.2]; simp [h4']
            go_quiet (fail)
            go_wp2_with fail
            refine bodyPost_end (results_none rfl _ _ _) rfl ⟨rfl, ?_⟩
            exact NO.out _ ((Keeps.refl _ w4).drewN _) (fun h => h.2.2.2.1 (by rw [HKD.out (by trivial), h4']))
          · have t2 : (ks.toList == [116, 114, 97, 112]) = false := by rw [HTS.out.2.2]; simp [h4']
            have hw2 : IntKind.i64.wrap ((n : Int) + 2) = n + 2 := by rw [IntKind.wrap_i64]; omega
            go_still_tail 26, (by kernel_rfl)
            change wpList _ _ _ _ _ w4.drew
            have HF5 := Lib.hid (HF4.out.quiet ((Keeps.refl (fun _ => False) w4).drew))
            go_wp2_with fail
            refine (full_any B f r most pc _ _ n ps st m ⟨xo, xS, xT, xD, xi⟩ hXo _ HF5.out).mono ?_
            rintro e w5 ⟨rfl, hk5⟩
            have HK5 := Lib.hid (Keeps.trans ((Keeps.refl (fun _ => False) w4).drew) hk5 (fun _ _ h => h))
            clear hk5 z0 z1 z2 z3 z4 c0 c1 c2 c3 c4 c5
            by_cases hfu : kx = 3 ∧ 8 ≤ st
            · have t3 : decide (Cd.kd xo = 3 ∧ 8 ≤ st) = true := decide_eq_true (by rw [HKK.out]; exact hfu)
              have HFU := Lib.hid hfu
              clear hfu
              simp only [t3]
              go_wp2_with fail
              refine bodyPost_end (results_none rfl _ _ _) rfl ⟨rfl, ?_⟩
              exact NO.out _ HK5.out (fun h => h.2.2.2.2 (by rw [HKD.out (by trivial)]; exact HFU.out))
            · have t3 : decide (Cd.kd xo = 3 ∧ 8 ≤ st) = false := decide_eq_false (by rw [HKK.out]; exact hfu)
              have HFU := Lib.hid hfu
              clear hfu
              simp only [t3]
              have HXB5 := Lib.hid (at_end (i := ⟨0, 0, 0, 0, 0⟩) HXB.out HK5.out)
              have HZB5 := Lib.hid (at_end (i := ⟨0, 0, 0, 0, 0⟩) HZB.out HK5.out)
              have HF6 := Lib.hid (HF4.out.quiet HK5.out)
              obtain ⟨⟨b0, b1, b2, b3, b4⟩, _⟩ := cells5 HXB5.out
              go_wp2_with fail
              rw [show (#[Value.int .i64 op, .int .i64 S, .int .i64 T, .int .i64 D, .int .u32 imm] : Array Value) = insC (nth m pc n) by rw [HNN.out]; rfl]
              refine (take_any B f r most pc _ _ n ps st m _ HF6.out (by omega) hn (by omega) (by omega) _ (Lib.hid rfl)).mono ?_
              rintro e w6 ⟨rfl, iv6, pv6, hF6, hm6, hp6, hk6⟩
              have hw0 := HKB.out.size
              have HKW := Lib.hid ((HKB.out.trans HK4.out (fun _ _ h => h)).trans HK5.out (fun _ _ h => h))
              have HZB6 := Lib.hid ((hk6.block z (Array.getElem?_eq_some_iff.1 HZB5.out).1 (fun h => by
                have z1 := HZ.out
                have z2 := HSB.out
                rcases h with h | h | h
                · omega
                · have := hiw z h; omega
                · have := hpw z h; omega)).trans HZB5.out)
              have HF6b := Lib.hid hF6
              have HM6 := Lib.hid (hm6.of_le HKW.out.size)
              have HP6 := Lib.hid (hp6.of_le HKW.out.size)
              have HK6 := Lib.hid (Keeps.trans (HKW.out.mono (fun _ _ h => h.elim)) hk6 (fun _ _ h => h))
              clear hF6 hm6 hp6 hk6 b0 b1 b2 b3 b4 hw0
              obtain ⟨⟨b0, b1, b2, b3, b4⟩, _⟩ := cells5 HZB6.out
              have HIN := Lib.hid (show (#[Value.int .i64 xo, .int .i64 xS, .int .i64 xT, .int .i64 xD, .int .u32 xi] : Array Value) = insC (nth m pc (n + 1)) by
                rcases HXX.out with ⟨_, _, e⟩ | ⟨_, e, _⟩
                · rw [← e]; rfl
                · cases e)
              have hpl := pageStep_len pc n ps
              have hst6 : (if kdAt m pc n = 3 then st + 1 else st) < 1000 := by split <;> omega
              generalize (if kdAt m pc n = 3 then st + 1 else st) = st6 at *
              go_wp2_with fail
              rw [HIN.out]
              refine (take_any B f r most pc _ _ (n + 1) (pageStep pc n ps) st6 m _ HF6b.out (by have := HIS.out.1 (by trivial); omega) (by omega) (by omega) hst6 _ (Lib.hid rfl)).mono ?_
              rintro e w7 ⟨rfl, hT7⟩
              have HT7 := Lib.hid hT7
              clear hT7 b0 b1 b2 b3 b4
              go_wp2_with fail
              refine bodyPost_end (results_none rfl _ _ _) rfl ⟨rfl, ?_⟩
              rcases hN.out with ⟨_, rfl, rfl⟩ | ⟨h, _⟩
              · exact ⟨_, Taken.trans HM6.out HP6.out HK6.out HT7.out⟩
              · exact absurd ⟨HIS.out.1 (by trivial), hmo, by rw [HKD.out (by trivial)]; exact h1, by rw [HKD.out (by trivial)]; exact h4', by rw [HKD.out (by trivial)]; exact HFU.out⟩ h
      · have t0 : decide ((n : Int) + 2 ≤ most) = false := by simp; omega
        go_quiet (fail)
        go_wp2_with fail
        refine bodyPost_end (results_none rfl _ _ _) rfl ⟨rfl, ?_⟩
        exact NO.out _ ((Keeps.refl _ w4).drewN _) (fun h => by omega)
end Go.Proofs.YtlbdkcnbgdmpaaaDoor
