import Derived.Test.YtlbdkcnbgdmpaaaDoorFormsz3
import Derived.Deep.CutRange
import Derived.StillTailTactics
import Derived.Deep.DeepCutAuto
import Derived.Test.YtlbdkcnbgdmpaaaDoorTakesz4
import Derived.Deep.CutBlock
import Derived.Deep.RegionWith

/- FormBranch -/
/- The walk of former.branch. -/
namespace Go.Proofs.YtlbdkcnbgdmpaaaDoor
open Go.RowKit Go.Deep
set_option linter.unusedVariables false

theorem next_at2 (B f r : Nat) (most : Int) (pc : Nat) (iv pv : Value) (n : Nat) (ps : List Nat) (st : Nat) (m : Nat → Int) (w wc : World) (F : FAt w B f r most pc iv pv n ps st m) (hk : Keeps (fun _ => False) w wc) (hp : pc + 4 * n < 4294967296) :
    Calls Tryd.prog 33 #[.pointer (some ⟨f, 0, none⟩)] wc fun e w' => e = .returned (.int .u32 ((pc : Int) + 4 * n)) ∧ Keeps (fun _ => False) w w' ∧ Keeps (fun _ => False) wc w' :=
  (next_any B f r most pc iv pv n ps st m wc (F.quiet hk) hp).mono fun e w' ⟨he, hk2⟩ => ⟨by rw [he]; push_cast; rfl, hk.trans hk2 (fun _ _ h => h), hk2⟩
theorem Moved.trans {w w2 : World} {v v' v'' : Value} (h : Moved w v v') (h2 : Moved w2 v' v'') (hs : w.heap.size ≤ w2.heap.size) : Moved w v v'' := by
  rcases h2 with h2 | h2
  · rcases h with h | h
    · exact .inl (h2.trans h)
    · exact .inr fun k hk => h k (h2 ▸ hk)
  · exact .inr fun k hk => Nat.le_trans hs (h2 k hk)
theorem Moved.old {w : World} {v v' : Value} (h : Moved w v v') {k : Nat} (hk : v'.ownBlock = some k) (hl : k < w.heap.size) : v.ownBlock = some k := by
  rcases h with h | h
  · exact h ▸ hk
  · have := h k hk; omega
theorem Taken.quiet {w w0 w' : World} {B f r : Nat} {most : Int} {pc : Nat} {iv pv : Value} {n : Nat} {ps : List Nat} {st : Nat} {m : Nat → Int} (k : Keeps (fun _ => False) w0 w) (h : Taken w w' B f r most pc iv pv n ps st m) : Taken w0 w' B f r most pc iv pv n ps st m := by
  obtain ⟨iv', pv', h1, h2, h3, h4⟩ := h
  exact ⟨iv', pv', h1, h2.of_le k.size, h3.of_le k.size, Keeps.trans (k.mono (fun _ _ h => h.elim)) h4 (fun _ _ h => h)⟩
theorem Taken.trans {w w2 w' : World} {B f r : Nat} {most : Int} {pc : Nat} {iv pv iv2 pv2 : Value} {n : Nat} {ps : List Nat} {st : Nat} {m : Nat → Int} (hm1 : Moved w iv iv2) (hm2 : Moved w pv pv2) (hk : Keeps (fun k => k = f ∨ iv.ownBlock = some k ∨ pv.ownBlock = some k) w w2)
    (h : Taken w2 w' B f r most pc iv2 pv2 n ps st m) : Taken w w' B f r most pc iv pv n ps st m := by
  obtain ⟨iv', pv', h1, h2, h3, h4⟩ := h
  refine ⟨iv', pv', h1, hm1.trans h2 hk.size, hm2.trans h3 hk.size, Keeps.trans hk h4 (fun b hb h => ?_)⟩
  rcases h with h | h | h
  · exact .inl h
  · exact .inr (.inl (hm1.old h hb))
  · exact .inr (.inr (hm2.old h hb))
theorem pageStep_len (pc n : Nat) (ps : List Nat) : (pageStep pc n ps).length ≤ ps.length + 1 := by
  unfold pageStep
  split <;> simp
theorem alloc_kept {w w2 : World} {o : Obj} (hk : Keeps (fun _ => False) (w.alloc o) w2) : w2.heap[w.heap.size]? = some o ∧ w.heap.size < w2.heap.size :=
  ⟨(hk.block w.heap.size (by simp) (fun h => h)).trans (blk_alloc_new w o), by have := hk.size; simp at this; omega⟩
theorem alloc_kept2 {w w2 : World} {o : Obj} (hk : Keeps (fun _ => False) (w.alloc o).drew w2) : w2.heap[w.heap.size]? = some o ∧ w.heap.size < w2.heap.size :=
  ⟨(hk.block w.heap.size (by show _ < (w.alloc o).heap.size; simp) (fun h => h)).trans (blk_alloc_new w o), by have := hk.size; have h2 : (w.alloc o).drew.heap.size = w.heap.size + 1 := (by show (w.alloc o).heap.size = _; simp); omega⟩
theorem drew_heap (w : World) : w.drew.heap = w.heap := rfl
theorem kept_again {w w2 : World} {o : Obj} {z : Nat} (h : w.heap[z]? = some o ∧ z < w.heap.size) (hk : Keeps (fun _ => False) w w2) : w2.heap[z]? = some o ∧ z < w2.heap.size :=
  ⟨(hk.block z h.2 (fun h => h)).trans h.1, by have := hk.size; omega⟩
theorem kept_drew {w w2 : World} {o : Obj} {z : Nat} (h : w.heap[z]? = some o ∧ z < w.heap.size) (hk : Keeps (fun _ => False) w.drew w2) : w2.heap[z]? = some o ∧ z < w2.heap.size := kept_again (w := w.drew) h hk
/-- the next place's instruction, whether memory has it or not -/
def Nx (m : Nat → Int) (pc k : Nat) (X : Cd.Ins) (is : Bool) : Prop := (pc + 4 * k < 16384 ∧ is = true ∧ X = nth m pc k) ∨ (¬ pc + 4 * k < 16384 ∧ is = false ∧ X = Cd.decOf 0)
theorem Nx.ex (m : Nat → Int) (pc k : Nat) : ∃ X is, Nx m pc k X is := by
  by_cases h : pc + 4 * k < 16384
  · exact ⟨_, _, .inl ⟨h, rfl, rfl⟩⟩
  · exact ⟨_, _, .inr ⟨h, rfl, rfl⟩⟩
theorem Nx.op {m : Nat → Int} {pc k : Nat} {X : Cd.Ins} {is : Bool} (h : Nx m pc k X is) : X.op < 54 := by
  rcases h with ⟨_, _, rfl⟩ | ⟨_, _, rfl⟩
  · exact (Cd.ok_dec _).op
  · exact (Cd.ok_dec _).op
theorem at_nx (r pb pw ph cp : Nat) (m : Nat → Int) (pc k : Nat) (X : Cd.Ins) (is : Bool) (w wc : World) (ea : Nat → Addr) (E : Errs3 w ea) (R : RamAt w r pb pw ph cp m) (hX : Nx m pc k X is) (h4 : pc % 4 = 0) (hl : pc + 4 * k < 4294967296) (a : Int) (ha : a = ((pc + 4 * k : Nat) : Int)) (hk : Keeps (fun _ => False) w wc) :
    Calls Tryd.prog 32 #[.pointer (some ⟨r, 0, none⟩), .int .u32 a] wc fun e w' => e = .returned (.tuple #[.agg (insC X), .bool is]) ∧ Keeps (fun _ => False) w w' ∧ Keeps (fun _ => False) wc w' := by
  subst ha
  rcases hX with ⟨h, rfl, rfl⟩ | ⟨h, rfl, rfl⟩
  · exact (at_ok r pb pw ph cp m (pc + 4 * k) wc (R.keep hk (fun h => h) (fun h => h)) (by omega) h).mono fun e w' ⟨he, h2⟩ => ⟨he, hk.trans h2 (fun _ _ h => h), h2⟩
  · exact (at_bad r (pc + 4 * k) wc ea (E.keep hk ⟨fun h => h, fun h => h, fun h => h⟩) (by omega) (by omega) hl).mono fun e w' ⟨he, h2⟩ => ⟨he, hk.trans h2 (fun _ _ h => h), h2⟩

set_option maxRecDepth 100000 in
set_option maxHeartbeats 4000000 in
theorem branch_any (B f r pb pw ph cp : Nat) (most : Nat) (pc : Nat) (iv pv : Value) (n : Nat) (ps : List Nat) (st : Nat) (m : Nat → Int) (w : World) (ea : Nat → Addr) (E : Errs3 w ea) (R : RamAt w r pb pw ph cp m) (F : FAt w B f r most pc iv pv n ps st m)
    (h4 : pc % 4 = 0) (hp : pc + 4 * n < 16384) (hn : n < 24) (hm : most ≤ 24) (hps : ps.length ≤ 20) (hst : st < 900) (N : Nat) (PS : List Nat)
    (hN : Hid (((pc + 4 * (n + 1) < 16384 ∧ n + 2 ≤ most ∧ kdAt m pc (n + 1) ≠ 1 ∧ kdAt m pc (n + 1) ≠ 4 ∧ ¬ (kdAt m pc (n + 1) = 3 ∧ 8 ≤ st)) ∧ N = n + 2 ∧ PS = pageStep pc (n + 1) (pageStep pc n ps)) ∨
      (¬ (pc + 4 * (n + 1) < 16384 ∧ n + 2 ≤ most ∧ kdAt m pc (n + 1) ≠ 1 ∧ kdAt m pc (n + 1) ≠ 4 ∧ ¬ (kdAt m pc (n + 1) = 3 ∧ 8 ≤ st)) ∧ N = n ∧ PS = ps))) :
    Calls Tryd.prog 35 #[.pointer (some ⟨f, 0, none⟩), .agg (insC (nth m pc n))] w fun e w' => e = .returned (.tuple #[]) ∧ ∃ st', Taken w w' B f r most pc iv pv N PS st' m := by
  obtain ⟨X, is, hX⟩ := Nx.ex m pc (n + 1)
  have hXo := hX.op
  have HXX := Lib.hid hX
  clear hX
  have HI := Lib.hid (show nth m pc n = nth m pc n from rfl)
  generalize hnn : nth m pc n = ins at *
  have HNN := Lib.hid hnn
  clear hnn HI
  obtain ⟨op, S, T, D, imm⟩ := ins
  obtain ⟨xo, xS, xT, xD, xi⟩ := X
  have hb := blk_alloc_new w (.cells #[.int .i64 op, .int .i64 S, .int .i64 T, .int .i64 D, .int .u32 imm] 39)
  have kb := (Keeps.refl (fun _ => False) w).alloc (.cells #[.int .i64 op, .int .i64 S, .int .i64 T, .int .i64 D, .int .u32 imm] 39)
  have hsb : (w.alloc (.cells #[.int .i64 op, .int .i64 S, .int .i64 T, .int .i64 D, .int .u32 imm] 39)).heap.size = w.heap.size + 1 := by simp
  have hfw : f < w.heap.size := (Array.getElem?_eq_some_iff.1 F.box).1
  have hiw : ∀ g, iv.ownBlock = some g → g < w.heap.size := fun g hg => owns_lt F.ins hg
  have hpw : ∀ g, pv.ownBlock = some g → g < w.heap.size := fun g hg => owns_lt F.pg hg
  have F1 := Lib.hid (F.quiet kb)
  have R1 := Lib.hid (R.keep kb (fun h => h) (fun h => h))
  have E1 := Lib.hid (E.keep kb ⟨fun h => h, fun h => h, fun h => h⟩)
  have HKB := Lib.hid kb
  unfold insC
  go_enter Tryd.func35, Tryd.ntmps35
  go_wp2_with fail
  generalize w.alloc (.cells #[.int .i64 op, .int .i64 S, .int .i64 T, .int .i64 D, .int .u32 imm] 39) = wb at *
  generalize hx : w.heap.size = x at *
  have HX := Lib.hid hx
  have HB := Lib.hid hb
  obtain ⟨c0, c1, c2, c3, c4, c5⟩ := F1.out.cells
  have HSB := Lib.hid hsb
  clear hx F R E kb hb hsb
  have c0a := cell_alloc c0 (.cells #[.int .i64 0, .int .i64 0, .int .i64 0, .int .i64 0, .int .u32 0] 39)
  go_upto_region 1 with fail
  go_cut [4, 5] from 7 to 17 (fun s4 s5 wx => ∃ z, s4 = .pointer (some ⟨z, 0, none⟩) ∧ s5 = .bool is ∧ wb.heap.size ≤ z ∧ wx.heap[z]? = some (.cells #[.int .i64 xo, .int .i64 xS, .int .i64 xT, .int .i64 xD, .int .u32 xi] 39 (0, 0)) ∧ Keeps (fun _ => False) wb wx)
  case first =>
    go_region_with (first
      | (go_at_call 33; refine (next_at2 B f r most pc iv pv n ps st m wb _ F1.out ?_ (by omega)).mono ?_; (repeat (first | exact Keeps.refl _ _ | assumption | apply Keeps.drew | apply Keeps.drewN | apply Keeps.alloc)); rintro e w2 ⟨rfl, hk2, hkn⟩; have d0 := hk2.cell' c0 (fun h => h); have d0a := cell_alloc d0 (.cells #[.int .i64 0, .int .i64 0, .int .i64 0, .int .i64 0, .int .u32 0] 39); (first | (have hz := alloc_kept2 hkn; (try simp only [drew_heap] at hz)) | (have hz := alloc_kept hkn; (try simp only [drew_heap] at hz)) | skip))
      | (go_at_call 32; refine (at_nx r pb pw ph cp m pc (n + 1) _ _ wb _ ea E1.out R1.out HXX.out h4 (by omega) _ (by rw [IntKind.wrap_u32']; push_cast; omega) ?_).mono ?_; (repeat (first | exact Keeps.refl _ _ | assumption | apply Keeps.drew | apply Keeps.drewN | apply Keeps.alloc)); rintro e w3 ⟨rfl, hk3, hka⟩; simp only [insC]; (first | (have hz3 := alloc_kept2 hka; (try simp only [drew_heap] at hz3); obtain ⟨⟨z0, z1, z2, z3, z4⟩, y0, y1, y2, y3, y4⟩ := cells5 hz3.1) | (have hz3 := alloc_kept hka; (try simp only [drew_heap] at hz3); obtain ⟨⟨z0, z1, z2, z3, z4⟩, y0, y1, y2, y3, y4⟩ := cells5 hz3.1) | (have hz3 := kept_again hz hka; obtain ⟨⟨z0, z1, z2, z3, z4⟩, y0, y1, y2, y3, y4⟩ := cells5 hz3.1) | skip)))
    all_goals (
      go_wp2_with fail
      go_meet
      have s2 := hk2.size
      first
        | exact ⟨_, rfl, rfl, hk3.size, blk_alloc_new _ _, hk3.alloc _⟩
        | exact ⟨_, rfl, rfl, by omega, (set5 hz3.1).1, Keeps.trans hk3 (set5 hz3.1).2 (fun k hk e => by omega)⟩)
  case rest =>
    obtain ⟨z, rfl, rfl, hz, hzb, hkx⟩ := hcut
    have HZ := Lib.hid hz
    clear c0 c1 c2 c3 c4 c5 c0a hz
    obtain ⟨⟨z0, z1, z2, z3, z4⟩, _⟩ := cells5 hzb
    go_wp2_with fail
    refine (Kind_any xo hXo _).mono ?_
    rintro e w4 ⟨rfl, hk4⟩
    have HK4 := Lib.hid (hkx.trans hk4 (fun _ _ h => h))
    have HZB := Lib.hid (at_end (i := ⟨0, 0, 0, 0, 0⟩) hzb hk4)
    have HF4 := Lib.hid (F1.out.quiet HK4.out)
    have HXB := Lib.hid (at_end (i := ⟨0, 0, 0, 0, 0⟩) HB.out HK4.out)
    have HKD := Lib.hid (show is = true → kdAt m pc (n + 1) = Cd.kd xo by
      rcases HXX.out with ⟨_, _, e⟩ | ⟨_, e, _⟩
      · intro _; unfold kdAt; rw [← e]
      · intro h; rw [e] at h; cases h)
    have HIS := Lib.hid (show is = true ↔ pc + 4 * (n + 1) < 16384 by
      rcases HXX.out with ⟨h, e, _⟩ | ⟨h, e, _⟩
      · exact ⟨fun _ => h, fun _ => e⟩
      · exact ⟨fun h2 => absurd (e.symm.trans h2) (by decide), fun h2 => absurd h2 h⟩)
    have HTS := Lib.hid (kd_test (Cd.kd xo) (kd_lt6 xo hXo))
    have no : ∀ w', Keeps (fun _ => False) w4 w' → (¬ (pc + 4 * (n + 1) < 16384 ∧ n + 2 ≤ most ∧ kdAt m pc (n + 1) ≠ 1 ∧ kdAt m pc (n + 1) ≠ 4 ∧ ¬ (kdAt m pc (n + 1) = 3 ∧ 8 ≤ st))) → ∃ st', Taken w w' B f r most pc iv pv N PS st' m := by
      intro w' hk hC
      rcases hN.out with ⟨h, _⟩ | ⟨_, rfl, rfl⟩
      · exact absurd h hC
      · exact ⟨st, iv, pv, HF4.out.quiet hk, .inl rfl, .inl rfl, Keeps.mono ((HKB.out.trans HK4.out (fun _ _ h => h)).trans hk (fun _ _ h => h)) (fun _ _ h => h.elim)⟩
    have NO := Lib.hid no
    clear no z0 z1 z2 z3 z4 hzb hkx hk4
    obtain ⟨c0, c1, c2, c3, c4, c5⟩ := HF4.out.cells
    obtain ⟨⟨A, cp0, rfl⟩, _⟩ := HF4.out.slices
    obtain ⟨⟨z0, z1, z2, z3, z4⟩, _⟩ := cells5 HZB.out
    have HSS := Lib.hid hst
    generalize hkk : Cd.kd xo = kx at *
    have HKK := Lib.hid hkk
    clear hkk
    generalize (⟨(Cd.kindS kx).toArray⟩ : ByteArray) = ks at *
    go_wp2_with fail
    cases is
    · go_quiet (fail)
      go_wp2_with fail
      refine bodyPost_end (results_none rfl _ _ _) rfl ⟨rfl, ?_⟩
      exact NO.out _ ((Keeps.refl _ w4).drewN _) (fun h => by have := HIS.out.2 h.1; cases this)
    · by_cases hmo : n + 2 ≤ most
      · have t0 : decide ((n : Int) + 2 ≤ most) = true := by simp; omega
        by_cases h1 : kx = 1
        · have t1 : (ks.toList == [98, 114, 97, 110, 99, 104]) = true := by rw [HTS.out.2.1]; simp [h1]
          go_quiet (fail)
          go_wp2_with fail
          refine bodyPost_end (results_none rfl _ _ _) rfl ⟨rfl, ?_⟩
          exact NO.out _ ((Keeps.refl _ w4).drewN _) (fun h => h.2.2.1 (by rw [HKD.out (by trivial), h1]))
        · have t1 : (ks.toList == [98, 114, 97, 110, 99, 104]) = false := by rw [HTS.out.2.1]; simp [h1]
          by_cases h4' : kx = 4
          · have t2 : (ks.toList == [116, 114, 97, 112]) = true := by rw [HTS.out.2.2]; simp [h4']
            go_quiet (fail)
            go_wp2_with fail
            refine bodyPost_end (results_none rfl _ _ _) rfl ⟨rfl, ?_⟩
            exact NO.out _ ((Keeps.refl _ w4).drewN _) (fun h => h.2.2.2.1 (by rw [HKD.out (by trivial), h4']))
          · have t2 : (ks.toList == [116, 114, 97, 112]) = false := by rw [HTS.out.2.2]; simp [h4']
            have hw2 : IntKind.i64.wrap ((n : Int) + 2) = n + 2 := by rw [IntKind.wrap_i64]; omega
            go_still_tail 26, (by kernel_rfl)
            change wpList _ _ _ _ _ w4.drew
            have HF5 := Lib.hid (HF4.out.quiet ((Keeps.refl (fun _ => False) w4).drew))
            go_wp2_with fail
            refine (full_any B f r most pc _ _ n ps st m ⟨xo, xS, xT, xD, xi⟩ hXo _ HF5.out).mono ?_
            rintro e w5 ⟨rfl, hk5⟩
            have HK5 := Lib.hid (Keeps.trans ((Keeps.refl (fun _ => False) w4).drew) hk5 (fun _ _ h => h))
            clear hk5 z0 z1 z2 z3 z4 c0 c1 c2 c3 c4 c5
            by_cases hfu : kx = 3 ∧ 8 ≤ st
            · have t3 : decide (Cd.kd xo = 3 ∧ 8 ≤ st) = true := decide_eq_true (by rw [HKK.out]; exact hfu)
              have HFU := Lib.hid hfu
              clear hfu
              simp only [t3]
              go_wp2_with fail
              refine bodyPost_end (results_none rfl _ _ _) rfl ⟨rfl, ?_⟩
              exact NO.out _ HK5.out (fun h => h.2.2.2.2 (by rw [HKD.out (by trivial)]; exact HFU.out))
            · have t3 : decide (Cd.kd xo = 3 ∧ 8 ≤ st) = false := decide_eq_false (by rw [HKK.out]; exact hfu)
              have HFU := Lib.hid hfu
              clear hfu
              simp only [t3]
              have HXB5 := Lib.hid (at_end (i := ⟨0, 0, 0, 0, 0⟩) HXB.out HK5.out)
              have HZB5 := Lib.hid (at_end (i := ⟨0, 0, 0, 0, 0⟩) HZB.out HK5.out)
              have HF6 := Lib.hid (HF4.out.quiet HK5.out)
              obtain ⟨⟨b0, b1, b2, b3, b4⟩, _⟩ := cells5 HXB5.out
              go_wp2_with fail
              rw [show (#[Value.int .i64 op, .int .i64 S, .int .i64 T, .int .i64 D, .int .u32 imm] : Array Value) = insC (nth m pc n) by rw [HNN.out]; rfl]
              refine (take_any B f r most pc _ _ n ps st m _ HF6.out (by omega) hn (by omega) (by omega) _ (Lib.hid rfl)).mono ?_
              rintro e w6 ⟨rfl, iv6, pv6, hF6, hm6, hp6, hk6⟩
              have hw0 := HKB.out.size
              have HKW := Lib.hid ((HKB.out.trans HK4.out (fun _ _ h => h)).trans HK5.out (fun _ _ h => h))
              have HZB6 := Lib.hid ((hk6.block z (Array.getElem?_eq_some_iff.1 HZB5.out).1 (fun h => by
                have z1 := HZ.out
                have z2 := HSB.out
                rcases h with h | h | h
                · omega
                · have := hiw z h; omega
                · have := hpw z h; omega)).trans HZB5.out)
              have HF6b := Lib.hid hF6
              have HM6 := Lib.hid (hm6.of_le HKW.out.size)
              have HP6 := Lib.hid (hp6.of_le HKW.out.size)
              have HK6 := Lib.hid (Keeps.trans (HKW.out.mono (fun _ _ h => h.elim)) hk6 (fun _ _ h => h))
              clear hF6 hm6 hp6 hk6 b0 b1 b2 b3 b4 hw0
              obtain ⟨⟨b0, b1, b2, b3, b4⟩, _⟩ := cells5 HZB6.out
              have HIN := Lib.hid (show (#[Value.int .i64 xo, .int .i64 xS, .int .i64 xT, .int .i64 xD, .int .u32 xi] : Array Value) = insC (nth m pc (n + 1)) by
                rcases HXX.out with ⟨_, _, e⟩ | ⟨_, e, _⟩
                · rw [← e]; rfl
                · cases e)
              have hpl := pageStep_len pc n ps
              have hst6 : (if kdAt m pc n = 3 then st + 1 else st) < 1000 := by split <;> omega
              generalize (if kdAt m pc n = 3 then st + 1 else st) = st6 at *
              go_wp2_with fail
              rw [HIN.out]
              refine (take_any B f r most pc _ _ (n + 1) (pageStep pc n ps) st6 m _ HF6b.out (by have := HIS.out.1 (by trivial); omega) (by omega) (by omega) hst6 _ (Lib.hid rfl)).mono ?_
              rintro e w7 ⟨rfl, hT7⟩
              have HT7 := Lib.hid hT7
              clear hT7 b0 b1 b2 b3 b4
              go_wp2_with fail
              refine bodyPost_end (results_none rfl _ _ _) rfl ⟨rfl, ?_⟩
              rcases hN.out with ⟨_, rfl, rfl⟩ | ⟨h, _⟩
              · exact ⟨_, Taken.trans HM6.out HP6.out HK6.out HT7.out⟩
              · exact absurd ⟨HIS.out.1 (by trivial), hmo, by rw [HKD.out (by trivial)]; exact h1, by rw [HKD.out (by trivial)]; exact h4', by rw [HKD.out (by trivial)]; exact HFU.out⟩ h
      · have t0 : decide ((n : Int) + 2 ≤ most) = false := by simp; omega
        go_quiet (fail)
        go_wp2_with fail
        refine bodyPost_end (results_none rfl _ _ _) rfl ⟨rfl, ?_⟩
        exact NO.out _ ((Keeps.refl _ w4).drewN _) (fun h => by omega)
end Go.Proofs.YtlbdkcnbgdmpaaaDoor

/- Form -/
/- The walk of region.Form. -/
namespace Go.Proofs.YtlbdkcnbgdmpaaaDoor
open Go.RowKit Go.Deep
set_option linter.unusedVariables false

/-- the five errors of Form, as they lie -/
structure Errs5 (w : World) (ea : Nat → Addr) : Prop where
  cell : ∀ c, (c = 2 ∨ c = 3 ∨ c = 6 ∨ c = 9 ∨ c = 10) → w.cell? ⟨gOf c, 0, none⟩ = some (errV ea c)
theorem Errs5.quiet {w w' : World} {ea : Nat → Addr} (E : Errs5 w ea) (k : Keeps (fun _ => False) w w') : Errs5 w' ea := ⟨fun c h => k.cell' (E.cell c h) (fun h => h)⟩
theorem Errs5.three {w : World} {ea : Nat → Addr} (E : Errs5 w ea) : Errs3 w ea := ⟨E.cell 3 (by omega), E.cell 9 (by omega), E.cell 10 (by omega)⟩
theorem ErrsAll.five {w : World} {ea : Nat → Addr} (E : ErrsAll w ea) : Errs5 w ea := ⟨fun c h => E.cell c (by omega) (by omega)⟩
theorem cell_lt {w : World} {b o : Nat} {v : Value} (h : w.cell? ⟨b, o, none⟩ = some v) : b < w.heap.size := by
  rcases Nat.lt_or_ge b w.heap.size with h' | h'
  · exact h'
  · simp [World.cell?, Array.getElem?_eq_none h'] at h
theorem Errs5.lt {w : World} {ea : Nat → Addr} (E : Errs5 w ea) : 0 < w.heap.size ∧ 2 < w.heap.size ∧ 3 < w.heap.size ∧ 4 < w.heap.size ∧ 1 < w.heap.size :=
  ⟨cell_lt (E.cell 3 (by omega)), cell_lt (E.cell 9 (by omega)), cell_lt (E.cell 10 (by omega)), cell_lt (E.cell 6 (by omega)), cell_lt (E.cell 2 (by omega))⟩

/-- no region -/
def noRegion : Value := .agg #[.int .u32 0, .slice none 0 0, .slice none 0 0]
/-- the error's number -/
def formC (pc most : Int) : Nat := if most < 1 ∨ 24 < most then 2 else if pc % 4 ≠ 0 then 9 else if 16384 ≤ pc then 10 else 0
/-- how many instructions -/
def formN (m : Nat → Int) (pc most : Nat) : Nat := Fm.go (kdAt m pc) ((16384 - pc) / 4) most 0 0
/-- what Form gives: a region of N instructions -/
def Formed (w : World) (m : Nat → Int) (pc N : Nat) (e : Ending) (w' : World) : Prop :=
  ∃ iv pv, e = .returned (.tuple #[.agg #[.int .u32 pc, iv, pv], .nilIface]) ∧ w'.ownsRow w.heap.size 39 5 iv N (insL m pc N) ∧ w'.ownsRow w.heap.size 3 1 pv (Fm.pages pc N).length (pageL (Fm.pages pc N)) ∧ Keeps (fun _ => False) w w'

/-- the state of the loop -/
def FLoop (w wr : World) (B f r : Nat) (most pc : Nat) (m : Nat → Int) (n st : Nat) : Prop :=
  ∃ iv pv, FAt wr B f r most pc iv pv n (Fm.pages pc n) st m ∧ Keeps (fun k => B ≤ k) w wr
theorem pages_pageStep (pc n : Nat) : Fm.pages pc (n + 1) = pageStep pc n (Fm.pages pc n) := Fm.pages_step pc n
theorem FLoop.of_taken {w wr w' : World} {B f r : Nat} {most pc : Nat} {m : Nat → Int} {n n' st st' : Nat} {iv pv : Value} {ps : List Nat} (F : FAt wr B f r most pc iv pv n (Fm.pages pc n) st m) (hk : Keeps (fun k => B ≤ k) w wr)
    (h : Taken wr w' B f r most pc iv pv n' ps st' m) (hps : ps = Fm.pages pc n') : FLoop w w' B f r most pc m n' st' := by
  subst hps
  obtain ⟨iv', pv', h1, _, _, h4⟩ := h
  refine ⟨iv', pv', h1, Keeps.trans hk h4 (fun b _ h => ?_)⟩
  rcases h with h | h | h
  · rw [h]; exact F.low
  · exact (F.ins.lt b h).1
  · exact (F.pg.lt b h).1
theorem cells3 {w : World} {x : Nat} {T : TypeId} {a b c : Value} (h : w.heap[x]? = some (.cells #[a, b, c] T (0, 0))) :
    (w.cell? ⟨x, 0, none⟩ = some a ∧ w.cell? ⟨x, 0 + 1, none⟩ = some b ∧ w.cell? ⟨x, 0 + 2, none⟩ = some c) ∧
    (w.frozen? ⟨x, 0, none⟩ = false ∧ w.frozen? ⟨x, 0 + 1, none⟩ = false ∧ w.frozen? ⟨x, 0 + 2, none⟩ = false) := by
  refine ⟨⟨?_, ?_, ?_⟩, ?_, ?_, ?_⟩ <;> simp [World.cell?, World.frozen?, h]
theorem set3 {w : World} {x : Nat} {T : TypeId} {a b c a' b' c' : Value} (h : w.heap[x]? = some (.cells #[a, b, c] T (0, 0))) :
    (((w.setCell ⟨x, 0, none⟩ a').setCell ⟨x, 1, none⟩ b').setCell ⟨x, 2, none⟩ c').heap[x]? = some (.cells #[a', b', c'] T (0, 0)) ∧
      Keeps (· = x) w (((w.setCell ⟨x, 0, none⟩ a').setCell ⟨x, 1, none⟩ b').setCell ⟨x, 2, none⟩ c') := by
  refine ⟨?_, Keeps.trans (Keeps.trans (Keeps.one _ _ _ _) (Keeps.one _ _ _ _) (fun _ _ h => h)) (Keeps.one _ _ _ _) (fun _ _ h => h)⟩
  have h1 := set_block (set_block (set_block h 0 a') 1 b') 2 c'
  simpa using h1
set_option maxHeartbeats 1000000 in
theorem form_nil (pc most : Int) (w : World) (ea : Nat → Addr) (E : Errs5 w ea) :
    Calls Tryd.prog 10 #[.pointer none, .int .u32 pc, .int .i64 most] w fun e w' => e = .returned (.tuple #[noRegion, errV ea 3]) ∧ Keeps (fun _ => False) w w' := by
  have k0 := (Keeps.refl (fun _ => False) w).alloc (.cells #[.int .u32 0, .slice none 0 0, .slice none 0 0] 30)
  have hb0 := blk_alloc_new w (.cells #[.int .u32 0, .slice none 0 0, .slice none 0 0] 30)
  have e1 : (w.alloc (.cells #[.int .u32 0, .slice none 0 0, .slice none 0 0] 30)).cell? ⟨0, 0, none⟩ = some (errV ea 3) := (E.quiet k0).cell 3 (by omega)
  unfold errV at *
  go_enter Tryd.func10, Tryd.ntmps10
  go_wp2_with fail
  all_goals (
    go_region
    generalize w.alloc (.cells #[.int .u32 0, .slice none 0 0, .slice none 0 0] 30) = wb at *
    generalize w.heap.size = b0 at *
    obtain ⟨⟨d0, d1, d2⟩, _⟩ := cells3 hb0
    clear hb0
    go_wp2_with fail
    refine bodyPost_ret (v := .tuple #[noRegion, .iface 173 (.pointer (some (ea 3)))]) ?_ rfl ⟨rfl, k0.drew⟩
    simp only [Nat.zero_add] at d1 d2
    simp [results, Tryd.results10, go_sem, d0, d1, d2, noRegion])
set_option maxHeartbeats 1000000 in
theorem form_low (r : Nat) (pc most : Int) (w : World) (ea : Nat → Addr) (E : Errs5 w ea) (h : most < 1) :
    Calls Tryd.prog 10 #[.pointer (some ⟨r, 0, none⟩), .int .u32 pc, .int .i64 most] w fun e w' => e = .returned (.tuple #[noRegion, errV ea 2]) ∧ Keeps (fun _ => False) w w' := by
  have k0 := (Keeps.refl (fun _ => False) w).alloc (.cells #[.int .u32 0, .slice none 0 0, .slice none 0 0] 30)
  have hb0 := blk_alloc_new w (.cells #[.int .u32 0, .slice none 0 0, .slice none 0 0] 30)
  have e1 : (w.alloc (.cells #[.int .u32 0, .slice none 0 0, .slice none 0 0] 30)).cell? ⟨1, 0, none⟩ = some (errV ea 2) := (E.quiet k0).cell 2 (by omega)
  unfold errV at *
  go_enter Tryd.func10, Tryd.ntmps10
  go_wp2_with fail
  all_goals (
    go_region
    generalize w.alloc (.cells #[.int .u32 0, .slice none 0 0, .slice none 0 0] 30) = wb at *
    generalize w.heap.size = b0 at *
    obtain ⟨⟨d0, d1, d2⟩, _⟩ := cells3 hb0
    clear hb0
    go_wp2_with fail
    refine bodyPost_ret (v := .tuple #[noRegion, .iface 173 (.pointer (some (ea 2)))]) ?_ rfl ⟨rfl, k0.drew⟩
    simp only [Nat.zero_add] at d1 d2
    simp [results, Tryd.results10, go_sem, d0, d1, d2, noRegion])
set_option maxHeartbeats 1000000 in
theorem form_high (r : Nat) (pc most : Int) (w : World) (ea : Nat → Addr) (E : Errs5 w ea) (h : 24 < most) :
    Calls Tryd.prog 10 #[.pointer (some ⟨r, 0, none⟩), .int .u32 pc, .int .i64 most] w fun e w' => e = .returned (.tuple #[noRegion, errV ea 2]) ∧ Keeps (fun _ => False) w w' := by
  have k0 := (Keeps.refl (fun _ => False) w).alloc (.cells #[.int .u32 0, .slice none 0 0, .slice none 0 0] 30)
  have hb0 := blk_alloc_new w (.cells #[.int .u32 0, .slice none 0 0, .slice none 0 0] 30)
  have e1 : (w.alloc (.cells #[.int .u32 0, .slice none 0 0, .slice none 0 0] 30)).cell? ⟨1, 0, none⟩ = some (errV ea 2) := (E.quiet k0).cell 2 (by omega)
  unfold errV at *
  go_enter Tryd.func10, Tryd.ntmps10
  go_wp2_with fail
  all_goals (
    go_region
    generalize w.alloc (.cells #[.int .u32 0, .slice none 0 0, .slice none 0 0] 30) = wb at *
    generalize w.heap.size = b0 at *
    obtain ⟨⟨d0, d1, d2⟩, _⟩ := cells3 hb0
    clear hb0
    go_wp2_with fail
    refine bodyPost_ret (v := .tuple #[noRegion, .iface 173 (.pointer (some (ea 2)))]) ?_ rfl ⟨rfl, k0.drew⟩
    simp only [Nat.zero_add] at d1 d2
    simp [results, Tryd.results10, go_sem, d0, d1, d2, noRegion])
set_option maxHeartbeats 1000000 in
theorem form_align (r : Nat) (pc most : Int) (w : World) (ea : Nat → Addr) (E : Errs5 w ea) (h : 1 ≤ most) (h2 : most ≤ 24) (h0 : 0 ≤ pc) (h3 : (pc % 4 != 0) = true) :
    Calls Tryd.prog 10 #[.pointer (some ⟨r, 0, none⟩), .int .u32 pc, .int .i64 most] w fun e w' => e = .returned (.tuple #[noRegion, errV ea 9]) ∧ Keeps (fun _ => False) w w' := by
  have k0 := (Keeps.refl (fun _ => False) w).alloc (.cells #[.int .u32 0, .slice none 0 0, .slice none 0 0] 30)
  have hb0 := blk_alloc_new w (.cells #[.int .u32 0, .slice none 0 0, .slice none 0 0] 30)
  have e1 : (w.alloc (.cells #[.int .u32 0, .slice none 0 0, .slice none 0 0] 30)).cell? ⟨2, 0, none⟩ = some (errV ea 9) := (E.quiet k0).cell 9 (by omega)
  unfold errV at *
  go_enter Tryd.func10, Tryd.ntmps10
  go_wp2_with fail
  all_goals (
    go_region
    generalize w.alloc (.cells #[.int .u32 0, .slice none 0 0, .slice none 0 0] 30) = wb at *
    generalize w.heap.size = b0 at *
    obtain ⟨⟨d0, d1, d2⟩, _⟩ := cells3 hb0
    clear hb0
    go_wp2_with fail
    refine bodyPost_ret (v := .tuple #[noRegion, .iface 173 (.pointer (some (ea 9)))]) ?_ rfl ⟨rfl, k0.drew⟩
    simp only [Nat.zero_add] at d1 d2
    simp [results, Tryd.results10, go_sem, d0, d1, d2, noRegion])
set_option maxHeartbeats 1000000 in
theorem form_far (r : Nat) (pc most : Int) (w : World) (ea : Nat → Addr) (E : Errs5 w ea) (h : 1 ≤ most) (h2 : most ≤ 24) (h0 : 0 ≤ pc) (h3 : (pc % 4 != 0) = false) (h4 : 16384 ≤ pc) :
    Calls Tryd.prog 10 #[.pointer (some ⟨r, 0, none⟩), .int .u32 pc, .int .i64 most] w fun e w' => e = .returned (.tuple #[noRegion, errV ea 10]) ∧ Keeps (fun _ => False) w w' := by
  have k0 := (Keeps.refl (fun _ => False) w).alloc (.cells #[.int .u32 0, .slice none 0 0, .slice none 0 0] 30)
  have hb0 := blk_alloc_new w (.cells #[.int .u32 0, .slice none 0 0, .slice none 0 0] 30)
  have e1 : (w.alloc (.cells #[.int .u32 0, .slice none 0 0, .slice none 0 0] 30)).cell? ⟨3, 0, none⟩ = some (errV ea 10) := (E.quiet k0).cell 10 (by omega)
  unfold errV at *
  go_enter Tryd.func10, Tryd.ntmps10
  go_wp2_with fail
  all_goals (
    go_region
    generalize w.alloc (.cells #[.int .u32 0, .slice none 0 0, .slice none 0 0] 30) = wb at *
    generalize w.heap.size = b0 at *
    obtain ⟨⟨d0, d1, d2⟩, _⟩ := cells3 hb0
    clear hb0
    go_wp2_with fail
    refine bodyPost_ret (v := .tuple #[noRegion, .iface 173 (.pointer (some (ea 10)))]) ?_ rfl ⟨rfl, k0.drew⟩
    simp only [Nat.zero_add] at d1 d2
    simp [results, Tryd.results10, go_sem, d0, d1, d2, noRegion])
end Go.Proofs.YtlbdkcnbgdmpaaaDoor

/- FormWalk -/
/- The walk of region.Form where it forms one. -/
namespace Go.Proofs.YtlbdkcnbgdmpaaaDoor
open Go.RowKit Go.Deep
set_option linter.unusedVariables false

/-- how many instructions a region under way has -/
def lenAt (w : World) (f : Nat) : Nat := match w.cell? ⟨f, 3, none⟩ with
  | some (.slice _ n _) => n
  | _ => 0
theorem FAt.len {w : World} {B f r : Nat} {most : Int} {pc : Nat} {iv pv : Value} {n : Nat} {ps : List Nat} {st : Nat} {m : Nat → Int} (F : FAt w B f r most pc iv pv n ps st m) : lenAt w f = n := by
  obtain ⟨⟨A, c, rfl⟩, _⟩ := F.slices
  unfold lenAt
  rw [F.cells.2.2.2.1]
/-- how the loop ends -/
def FEnd (w : World) (m : Nat → Int) (pc N : Nat) (ea : Nat → Addr) (e : Ending) (w' : World) : Prop :=
  (N = 0 ∧ e = .returned (.tuple #[noRegion, errV ea 6]) ∧ Keeps (fun _ => False) w w') ∨ (N ≠ 0 ∧ Formed w m pc N e w')

theorem go_stop {K : Nat → Nat} {last f n s : Nat} (h : last ≤ n ∨ K n = 4 ∨ (K n = 3 ∧ 8 ≤ s)) : Fm.go K last (f + 1) n s = n := by rw [Fm.go, if_pos h]
theorem go_yes {K : Nat → Nat} {last f n s : Nat} (h : ¬ (last ≤ n ∨ K n = 4 ∨ (K n = 3 ∧ 8 ≤ s))) (h1 : K n = 1) (h2 : n + 1 < last ∧ 1 ≤ f ∧ K (n + 1) ≠ 1 ∧ K (n + 1) ≠ 4 ∧ ¬ (K (n + 1) = 3 ∧ 8 ≤ s)) : Fm.go K last (f + 1) n s = n + 2 := by rw [Fm.go, if_neg h, if_pos h1, if_pos h2]
theorem go_no {K : Nat → Nat} {last f n s : Nat} (h : ¬ (last ≤ n ∨ K n = 4 ∨ (K n = 3 ∧ 8 ≤ s))) (h1 : K n = 1) (h2 : ¬ (n + 1 < last ∧ 1 ≤ f ∧ K (n + 1) ≠ 1 ∧ K (n + 1) ≠ 4 ∧ ¬ (K (n + 1) = 3 ∧ 8 ≤ s))) : Fm.go K last (f + 1) n s = n := by rw [Fm.go, if_neg h, if_pos h1, if_neg h2]
theorem go_on {K : Nat → Nat} {last f n s : Nat} (h : ¬ (last ≤ n ∨ K n = 4 ∨ (K n = 3 ∧ 8 ≤ s))) (h1 : K n ≠ 1) : Fm.go K last (f + 1) n s = Fm.go K last f (n + 1) (if K n = 3 then s + 1 else s) := by rw [Fm.go, if_neg h, if_neg h1]

set_option maxRecDepth 100000 in
set_option maxHeartbeats 8000000 in
theorem form_walk (r pb pw ph cp : Nat) (m : Nat → Int) (pc most : Nat) (w : World) (ea : Nat → Addr) (E : Errs5 w ea) (R : RamAt w r pb pw ph cp m) (h1 : 1 ≤ most) (h2 : most ≤ 24) (h4 : pc % 4 = 0) (h5 : pc < 16384) (N : Nat) (hN : Hid (formN m pc most = N)) :
    Calls Tryd.prog 10 #[.pointer (some ⟨r, 0, none⟩), .int .u32 pc, .int .i64 most] w fun e w' => FEnd w m pc N ea e w' := by
  have t0 : ((pc : Int) % 4 != 0) = false := by simp; omega
  have k0 := (Keeps.refl (fun _ => False) w).alloc (.cells #[.int .u32 0, .slice none 0 0, .slice none 0 0] 30)
  have hb0 := blk_alloc_new w (.cells #[.int .u32 0, .slice none 0 0, .slice none 0 0] 30)
  have hs0 : (w.alloc (.cells #[.int .u32 0, .slice none 0 0, .slice none 0 0] 30)).heap.size = w.heap.size + 1 := by simp
  have HGL := Lib.hid E.lt
  have R0 := Lib.hid (R.keep k0 (fun h => h) (fun h => h))
  have E0 := Lib.hid (E.quiet k0)
  have HE6 : Hid ((w.alloc (.cells #[.int .u32 0, .slice none 0 0, .slice none 0 0] 30)).cell? ⟨4, 0, none⟩ = some (.iface 173 (.pointer (some (ea 6))))) := Lib.hid ((E.quiet k0).cell 6 (by omega))
  have HLr := Lib.hid (show r < w.heap.size ∧ pb < w.heap.size from ⟨(Array.getElem?_eq_some_iff.1 R.box).1, R.bytes.lt⟩)
  clear R E
  go_enter Tryd.func10, Tryd.ntmps10
  go_upto_block 1 with fail
  have kb := (Keeps.refl (fun _ => False) (w.alloc (.cells #[.int .u32 0, .slice none 0 0, .slice none 0 0] 30))).alloc (.cells #[.pointer (some ⟨r, 0, none⟩), .int .i64 most, .int .u32 pc, .slice none 0 0, .slice none 0 0, .int .i64 0] 76)
  have hbf := blk_alloc_new (w.alloc (.cells #[.int .u32 0, .slice none 0 0, .slice none 0 0] 30)) (.cells #[.pointer (some ⟨r, 0, none⟩), .int .i64 most, .int .u32 pc, .slice none 0 0, .slice none 0 0, .int .i64 0] 76)
  have hbf1 : ((w.alloc (.cells #[.int .u32 0, .slice none 0 0, .slice none 0 0] 30)).alloc (.cells #[.pointer (some ⟨r, 0, none⟩), .int .i64 most, .int .u32 pc, .slice none 0 0, .slice none 0 0, .int .i64 0] 76)).heap[w.heap.size + 1]? = some (.cells #[.pointer (some ⟨r, 0, none⟩), .int .i64 most, .int .u32 pc, .slice none 0 0, .slice none 0 0, .int .i64 0] 76 (0, 0)) := by rw [← hs0]; exact hbf
  generalize hwF : (w.alloc (.cells #[.int .u32 0, .slice none 0 0, .slice none 0 0] 30)).alloc (.cells #[.pointer (some ⟨r, 0, none⟩), .int .i64 most, .int .u32 pc, .slice none 0 0, .slice none 0 0, .int .i64 0] 76) = wF at *
  clear hwF hbf
  generalize hwA : w.alloc (.cells #[.int .u32 0, .slice none 0 0, .slice none 0 0] 30) = wA at *
  generalize hb : w.heap.size = b0 at *
  have HW0 := Lib.hid hb
  have HS0 := Lib.hid hs0
  have HB0 := Lib.hid hb0
  have HK0 := Lib.hid k0
  have hst : FLoop wA wF (b0 + 1) (b0 + 1) r most pc m 0 0 := ⟨.slice none 0 0, .slice none 0 0, ⟨hbf1, World.ownsRow_nil _ _ _ _, World.ownsRow_nil _ _ _ _, Nat.le_refl _, by simp [Value.ownBlock], by simp [Value.ownBlock], .inl rfl⟩, kb.mono (fun _ _ h => h.elim)⟩
  have HST := Lib.hid hst
  clear hwA hb hs0 hb0 k0 kb hbf1 hst
  have HLS := Lib.hid (fun n : Nat => show n < (16384 - pc) / 4 ↔ pc + 4 * n < 16384 by omega)
  -- every error, and memory, as they stand in the loop
  have HEV := Lib.hid (fun (wr : World) (hk : Keeps (fun k => b0 + 1 ≤ k) wA wr) => show Errs3 wr ea ∧ RamAt wr r pb pw ph cp m from
    ⟨E0.out.three.keep hk ⟨by have := HGL.out; omega, by have := HGL.out; omega, by have := HGL.out; omega⟩, R0.out.keep hk (by have := HLr.out; omega) (by have := HLr.out; omega)⟩)
  go_cut [9, 10, 11] from 43 to 79 (fun s9 s10 s11 wx => ∃ st', FLoop wA wx (b0 + 1) (b0 + 1) r most pc m N st')
  case first =>
    go_wp2_with fail
    go_loopw [10] (fun s10 wr => ∃ n st, n ≤ most ∧ st ≤ n ∧ FLoop wA wr (b0 + 1) (b0 + 1) r most pc m n st ∧ Fm.go (kdAt m pc) ((16384 - pc) / 4) (most - n) n st = N) (fun _ wr => most - lenAt wr (b0 + 1))
    case atStart => exact ⟨0, 0, by omega, by omega, HST.out, hN.out⟩
    case round =>
      clear HST
      obtain ⟨n, st, hnm, hst, ⟨iv, pv, hF, hK⟩, hG⟩ := hrel
      have HF := Lib.hid hF
      have HK := Lib.hid hK
      have HG := Lib.hid hG
      have HEX := Lib.hid (show Fm.go (kdAt m pc) ((16384 - pc) / 4) (most - n) n st = n → ∃ st', FLoop wA wr (b0 + 1) (b0 + 1) r most pc m N st' from fun h => ⟨st, iv, pv, by rw [← HG.out, h]; exact hF, hK⟩)
      clear hF hK hG
      by_cases hlt : n < most
      · obtain ⟨f', hf'⟩ : ∃ f', most - n = f' + 1 := ⟨most - n - 1, by omega⟩
        obtain ⟨X, is, hX⟩ := Nx.ex m pc n
        have hXo := hX.op
        have HXX := Lib.hid hX
        have HFF := Lib.hid hf'
        obtain ⟨xo, xS, xT, xD, xi⟩ := X
        clear hX hf'
        have HIS := Lib.hid (show is = true ↔ pc + 4 * n < 16384 by
          rcases HXX.out with ⟨h, e, _⟩ | ⟨h, e, _⟩
          · exact ⟨fun _ => h, fun _ => e⟩
          · exact ⟨fun h2 => absurd (e.symm.trans h2) (by decide), fun h2 => absurd h2 h⟩)
        have HKD := Lib.hid (show is = true → kdAt m pc n = Cd.kd xo by
          rcases HXX.out with ⟨_, _, e⟩ | ⟨_, e, _⟩
          · intro _; unfold kdAt; rw [← e]
          · intro h; rw [e] at h; cases h)
        have HIN := Lib.hid (show is = true → (#[Value.int .i64 xo, .int .i64 xS, .int .i64 xT, .int .i64 xD, .int .u32 xi] : Array Value) = insC (nth m pc n) by
          rcases HXX.out with ⟨_, _, e⟩ | ⟨_, e, _⟩
          · intro _; rw [← e]; rfl
          · intro h; rw [e] at h; cases h)
        obtain ⟨⟨A, cpi, rfl⟩, _⟩ := HF.out.slices
        obtain ⟨c0, c1, c2, c3, c4, c5⟩ := HF.out.cells
        go_wp2_with fail
        refine (next_at2 _ _ r most pc _ pv n _ st m wr wr HF.out (Keeps.refl _ _) (by omega)).mono ?_
        rintro e w1 ⟨rfl, hk1, _⟩
        go_wp2_with fail
        refine (at_nx r pb pw ph cp m pc n ⟨xo, xS, xT, xD, xi⟩ is wr _ ea (HEV.out wr HK.out).1 (HEV.out wr HK.out).2 HXX.out h4 (by omega) _ (by push_cast; rfl) hk1).mono ?_
        rintro e w2 ⟨rfl, hk2, _⟩
        simp only [insC]
        clear hk1 c0 c1 c2 c3 c4 c5
        have HK2 := Lib.hid hk2
        clear hk2
        go_wp2_with fail
        have hbz := blk_alloc_new w2 (.cells #[.int .i64 xo, .int .i64 xS, .int .i64 xT, .int .i64 xD, .int .u32 xi] 39)
        have kz := (Keeps.refl (fun _ => False) w2).alloc (.cells #[.int .i64 xo, .int .i64 xS, .int .i64 xT, .int .i64 xD, .int .u32 xi] 39)
        generalize w2.alloc (.cells #[.int .i64 xo, .int .i64 xS, .int .i64 xT, .int .i64 xD, .int .u32 xi] 39) = w3 at *
        have HZL := Lib.hid HK2.out.size
        generalize w2.heap.size = z at *
        obtain ⟨⟨z0, z1, z2, z3, z4⟩, _⟩ := cells5 hbz
        go_wp2_with fail
        refine (Kind_any xo hXo _).mono ?_
        rintro e w4 ⟨rfl, hk4⟩
        have HK4 := Lib.hid ((HK2.out.trans kz (fun _ _ h => h)).trans hk4 (fun _ _ h => h))
        have HZB := Lib.hid (at_end (i := ⟨0, 0, 0, 0, 0⟩) hbz hk4)
        clear z0 z1 z2 z3 z4 hbz kz hk4
        have HF4 := Lib.hid (HF.out.quiet HK4.out)
        have HE4 := Lib.hid (fun (w' : World) (hk : Keeps (fun _ => False) w4 w') (h : Fm.go (kdAt m pc) ((16384 - pc) / 4) (most - n) n st = n) => show ∃ st', FLoop wA w' (b0 + 1) (b0 + 1) r most pc m N st' by
          obtain ⟨st', iv', pv', h1, h2⟩ := HEX.out h
          have hkk := HK4.out.trans hk (fun _ _ h => h)
          exact ⟨st', iv', pv', h1.quiet hkk, h2.trans hkk (fun _ _ h => h.elim)⟩)
        have HTS := Lib.hid (kd_test (Cd.kd xo) (kd_lt6 xo hXo))
        generalize hkk : Cd.kd xo = kx at *
        have HKK := Lib.hid hkk
        clear hkk
        generalize (⟨(Cd.kindS kx).toArray⟩ : ByteArray) = ks at *
        cases is
        · go_wp2_with fail
          go_meet
          exact HE4.out _ (Keeps.refl _ _) (by rw [HFF.out]; exact go_stop (.inl (by have h1 := HLS.out n; have h2 := HIS.out; simp at h2; omega)))
        · by_cases h4' : kx = 4
          · have t2 : (ks.toList == [116, 114, 97, 112]) = true := by rw [HTS.out.2.2]; simp [h4']
            go_wp2_with fail
            go_meet
            exact HE4.out _ (Keeps.refl _ _) (by rw [HFF.out]; exact go_stop (.inr (.inl (by rw [HKD.out (by trivial)]; exact h4'))))
          · have t2 : (ks.toList == [116, 114, 97, 112]) = false := by rw [HTS.out.2.2]; simp [h4']
            obtain ⟨⟨z0, z1, z2, z3, z4⟩, _⟩ := cells5 HZB.out
            go_wp2_with fail
            refine (full_any _ _ r most pc _ pv n _ st m ⟨xo, xS, xT, xD, xi⟩ hXo _ HF4.out).mono ?_
            rintro e w5 ⟨rfl, hk5⟩
            have HK5 := Lib.hid hk5
            have HF5 := Lib.hid (HF4.out.quiet hk5)
            have HZB5 := Lib.hid (at_end (i := ⟨0, 0, 0, 0, 0⟩) HZB.out hk5)
            clear hk5 z0 z1 z2 z3 z4
            by_cases hfu : kx = 3 ∧ 8 ≤ st
            · have t3 : decide (Cd.kd xo = 3 ∧ 8 ≤ st) = true := decide_eq_true (by rw [HKK.out]; exact hfu)
              have HFU := Lib.hid hfu
              clear hfu
              simp only [t3]
              go_wp2_with fail
              go_meet
              exact HE4.out _ HK5.out (by rw [HFF.out]; exact go_stop (.inr (.inr (by rw [HKD.out (by trivial)]; exact HFU.out))))
            · have t3 : decide (Cd.kd xo = 3 ∧ 8 ≤ st) = false := decide_eq_false (by rw [HKK.out]; exact hfu)
              have HFU := Lib.hid (show ¬ ((16384 - pc) / 4 ≤ n ∨ kdAt m pc n = 4 ∨ (kdAt m pc n = 3 ∧ 8 ≤ st)) by
                rw [HKD.out (by trivial)]
                have h1 := HLS.out n
                have h2 := HIS.out.1 (by trivial)
                omega)
              have hp : pc + 4 * n < 16384 := HIS.out.1 (by trivial)
              clear hfu
              simp only [t3]
              obtain ⟨⟨z0, z1, z2, z3, z4⟩, _⟩ := cells5 HZB5.out
              have hpl := Fm.pages_len pc n (by omega)
              have HKA5 := Lib.hid (show Keeps (fun k => b0 + 1 ≤ k) wA w5 from (HK.out.trans HK4.out (fun _ _ h => h.elim)).trans HK5.out (fun _ _ h => h.elim))
              by_cases hb1 : kx = 1
              · have t1 : (ks.toList == [98, 114, 97, 110, 99, 104]) = true := by rw [HTS.out.2.1]; simp [hb1]
                go_wp2_with fail
                rw [HIN.out (by trivial)]
                refine (branch_any _ _ r pb pw ph cp most pc _ pv n _ st m _ ea (HEV.out w5 HKA5.out).1 (HEV.out w5 HKA5.out).2 HF5.out h4 hp (by omega) h2 (by omega) (by omega) N (Fm.pages pc N) (Lib.hid ?_)).mono ?_
                · have hg := HG.out
                  rw [HFF.out] at hg
                  have l1 := HLS.out (n + 1)
                  have l2 := HFF.out
                  by_cases hC : n + 1 < (16384 - pc) / 4 ∧ 1 ≤ f' ∧ kdAt m pc (n + 1) ≠ 1 ∧ kdAt m pc (n + 1) ≠ 4 ∧ ¬ (kdAt m pc (n + 1) = 3 ∧ 8 ≤ st)
                  · rw [go_yes HFU.out (by rw [HKD.out (by trivial)]; exact hb1) hC] at hg
                    refine .inl ⟨⟨l1.1 hC.1, by omega, hC.2.2⟩, hg.symm, ?_⟩
                    rw [← hg, pages_pageStep, pages_pageStep]
                  · rw [go_no HFU.out (by rw [HKD.out (by trivial)]; exact hb1) hC] at hg
                    exact .inr ⟨fun h => hC ⟨l1.2 h.1, by omega, h.2.2⟩, hg.symm, by rw [← hg]⟩
                rintro e w6 ⟨rfl, st', hT⟩
                have HT := Lib.hid (FLoop.of_taken HF5.out HKA5.out hT rfl)
                clear hT z0 z1 z2 z3 z4
                go_wp2_with fail
                go_meet
                exact ⟨st', HT.out⟩
              · have t1 : (ks.toList == [98, 114, 97, 110, 99, 104]) = false := by rw [HTS.out.2.1]; simp [hb1]
                go_wp2_with fail
                rw [HIN.out (by trivial)]
                refine (take_any _ _ r most pc _ pv n _ st m _ HF5.out (by omega) (by omega) (by omega) (by omega) _ (Lib.hid rfl)).mono ?_
                rintro e w6 ⟨rfl, hT⟩
                have HT := Lib.hid (FLoop.of_taken HF5.out HKA5.out hT (pages_pageStep pc n).symm)
                have hg := HG.out
                rw [HFF.out, go_on HFU.out (by rw [HKD.out (by trivial)]; exact hb1)] at hg
                have HG2 := Lib.hid hg
                have hst6 : (if kdAt m pc n = 3 then st + 1 else st) ≤ n + 1 := by split <;> omega
                generalize (if kdAt m pc n = 3 then st + 1 else st) = st6 at *
                clear hT z0 z1 z2 z3 z4 hg
                go_wp2_with fail
                go_roundw
                case rel => exact ⟨n + 1, st6, by omega, hst6, HT.out, by have := HFF.out; rw [show most - (n + 1) = f' by omega]; exact HG2.out⟩
                case measure =>
                  obtain ⟨iv6, pv6, h6, _⟩ := HT.out
                  rw [h6.len, HF.out.len]
                  omega
      · obtain rfl : n = most := by omega
        obtain ⟨⟨A, cpi, rfl⟩, _⟩ := HF.out.slices
        obtain ⟨c0, c1, c2, c3, c4, c5⟩ := HF.out.cells
        go_wp2_with fail
        go_meet
        exact HEX.out (by rw [Nat.sub_self]; rfl)
  case rest =>
    obtain ⟨st', ivE, pvE, hFE, hkE⟩ := hcut
    have HFE := Lib.hid hFE
    have HKE := Lib.hid hkE
    have HBE := Lib.hid (show wc.heap[b0]? = some (.cells #[.int .u32 0, .slice none 0 0, .slice none 0 0] 30 (0, 0)) from (hkE.block b0 (by have := HS0.out; omega) (by omega)).trans HB0.out)
    have HER := Lib.hid (show wc.cell? ⟨4, 0, none⟩ = some (.iface 173 (.pointer (some (ea 6)))) from hkE.cell' HE6.out (by have := HGL.out; omega))
    clear hFE hkE
    obtain ⟨⟨AE, cpE, rfl⟩, ⟨AP, cpP, rfl⟩⟩ := HFE.out.slices
    obtain ⟨c0, c1, c2, c3, c4, c5⟩ := HFE.out.cells
    obtain ⟨⟨r0, r1, r2⟩, f0, f1, f2⟩ := cells3 HBE.out
    by_cases hN0 : N = 0
    · subst hN0
      have e6 := HER.out
      have H3 := set3 (a' := .int .u32 0) (b' := .slice none 0 0) (c' := .slice none 0 0) HBE.out
      have e6b := H3.2.cell' HER.out (by have := HGL.out; omega)
      have H3B := Lib.hid H3.1
      have H3K := Lib.hid H3.2
      clear H3
      go_wp2_with fail
      go_region
      all_goals (
        generalize (((wc.setCell ⟨b0, 0, none⟩ (.int .u32 0)).setCell ⟨b0, 1, none⟩ (.slice none 0 0)).setCell ⟨b0, 2, none⟩ (.slice none 0 0)) = WW at *
        obtain ⟨⟨d0, d1, d2⟩, _⟩ := cells3 H3B.out
        clear r0 r1 r2 f0 f1 f2 e6 e6b c0 c1 c2 c3 c4 c5
        go_wp2_with fail
        refine bodyPost_ret (v := .tuple #[noRegion, .iface 173 (.pointer (some (ea 6)))]) ?_ rfl (.inl ⟨rfl, rfl, ?_⟩)
        · simp only [Nat.zero_add] at d1 d2
          simp [results, Tryd.results10, go_sem, d0, d1, d2, noRegion]
        · exact (Keeps.trans (Keeps.trans HK0.out HKE.out (fun k hk h => by have := HW0.out; omega)) H3K.out (fun k hk h => by have := HW0.out; omega)).drew)
    · have t1 : ((N : Int) == 0) = false := by simp; omega
      have H3 := set3 (a' := .int .u32 pc) (b' := .slice AE N cpE) (c' := .slice AP (Fm.pages pc N).length cpP) HBE.out
      have H3B := Lib.hid H3.1
      have H3K := Lib.hid H3.2
      clear H3
      go_wp2_with fail
      generalize (((wc.setCell ⟨b0, 0, none⟩ (.int .u32 pc)).setCell ⟨b0, 1, none⟩ (.slice AE N cpE)).setCell ⟨b0, 2, none⟩ (.slice AP (Fm.pages pc N).length cpP)) = WW at *
      obtain ⟨⟨d0, d1, d2⟩, _⟩ := cells3 H3B.out
      clear r0 r1 r2 f0 f1 f2 c0 c1 c2 c3 c4 c5
      refine bodyPost_ret (v := .tuple #[.agg #[.int .u32 pc, .slice AE N cpE, .slice AP (Fm.pages pc N).length cpP], .nilIface]) ?_ rfl (.inr ⟨hN0, _, _, rfl, ?_, ?_, ?_⟩)
      · simp only [Nat.zero_add] at d1 d2
        simp [results, Tryd.results10, go_sem, d0, d1, d2]
      · rw [HW0.out]
        exact ownsRow_base (owns_keep HFE.out.ins H3K.out (fun g hg e => by have := (HFE.out.ins.lt g hg).1; omega)) (Nat.le_succ _)
      · rw [HW0.out]
        exact ownsRow_base (owns_keep HFE.out.pg H3K.out (fun g hg e => by have := (HFE.out.pg.lt g hg).1; omega)) (Nat.le_succ _)
      · exact Keeps.trans (Keeps.trans HK0.out HKE.out (fun k hk h => by have := HW0.out; omega)) H3K.out (fun k hk h => by have := HW0.out; omega)
end Go.Proofs.YtlbdkcnbgdmpaaaDoor

/- FormUse -/
/- region.Form at any call; Len, Ends; the closed fact formed; sameIns. -/
namespace Go.Proofs.YtlbdkcnbgdmpaaaDoor
open Go.RowKit Go.Deep
set_option linter.unusedVariables false

/-- the number of Form's error; 0: none -/
def formE (m : Nat → Int) (pc most : Int) : Nat := if most < 1 ∨ 24 < most then 2 else if pc % 4 ≠ 0 then 9 else if 16384 ≤ pc then 10 else if formN m pc.toNat most.toNat = 0 then 6 else 0
theorem formE_le (m : Nat → Int) (pc most : Int) : formE m pc most ≤ 10 := by
  unfold formE
  repeat' split
  all_goals omega
def FormOut (w : World) (m : Nat → Int) (pc most : Int) (ea : Nat → Addr) (e : Ending) (w' : World) : Prop :=
  (formE m pc most ≠ 0 ∧ e = .returned (.tuple #[noRegion, errV ea (formE m pc most)]) ∧ Keeps (fun _ => False) w w') ∨ (formE m pc most = 0 ∧ Formed w m pc.toNat (formN m pc.toNat most.toNat) e w')
theorem form_any (r pb pw ph cp : Nat) (m : Nat → Int) (pc most : Int) (w : World) (ea : Nat → Addr) (E : Errs5 w ea) (R : RamAt w r pb pw ph cp m) (hpc : 0 ≤ pc ∧ pc < 4294967296) :
    Calls Tryd.prog 10 #[.pointer (some ⟨r, 0, none⟩), .int .u32 pc, .int .i64 most] w fun e w' => FormOut w m pc most ea e w' := by
  unfold FormOut
  by_cases h1 : most < 1
  · have e : formE m pc most = 2 := by rw [formE, if_pos (.inl h1)]
    rw [e]
    exact (form_low r pc most w ea E h1).mono fun e w' h => .inl ⟨by decide, h⟩
  by_cases h2 : 24 < most
  · have e : formE m pc most = 2 := by rw [formE, if_pos (.inr h2)]
    rw [e]
    exact (form_high r pc most w ea E h2).mono fun e w' h => .inl ⟨by decide, h⟩
  by_cases h3 : pc % 4 ≠ 0
  · have e : formE m pc most = 9 := by rw [formE, if_neg (by omega), if_pos h3]
    rw [e]
    exact (form_align r pc most w ea E (by omega) (by omega) hpc.1 (by simpa using h3)).mono fun e w' h => .inl ⟨by decide, h⟩
  by_cases h4 : 16384 ≤ pc
  · have e : formE m pc most = 10 := by rw [formE, if_neg (by omega), if_neg h3, if_pos h4]
    rw [e]
    exact (form_far r pc most w ea E (by omega) (by omega) hpc.1 (by simp; omega) h4).mono fun e w' h => .inl ⟨by decide, h⟩
  obtain ⟨p, rfl⟩ := Int.eq_ofNat_of_zero_le hpc.1
  obtain ⟨k, rfl⟩ := Int.eq_ofNat_of_zero_le (show 0 ≤ most by omega)
  refine (form_walk r pb pw ph cp m p k w ea E R (by omega) (by omega) (by omega) (by omega) _ (Lib.hid rfl)).mono fun e w' h => ?_
  rw [Int.toNat_natCast, Int.toNat_natCast]
  rcases h with ⟨hN, h⟩ | ⟨hN, h⟩
  · have e : formE m p k = 6 := by rw [formE, if_neg (by omega), if_neg h3, if_neg h4, Int.toNat_natCast, Int.toNat_natCast, if_pos hN]
    rw [e]
    exact .inl ⟨by decide, h⟩
  · have e : formE m p k = 0 := by rw [formE, if_neg (by omega), if_neg h3, if_neg h4, Int.toNat_natCast, Int.toNat_natCast, if_neg hN]
    rw [e]
    exact .inr ⟨rfl, h⟩

/-- a slice of instructions as it lies -/
def InsAt (w : World) (A : Option Addr) (n cap : Nat) (g : Nat → Cd.Ins) : Prop := n ≤ cap ∧ cap ≤ 9223372036854775807 ∧ (n = 0 ∨ ∃ b o, A = some ⟨b, o, none⟩ ∧ ∀ i, i < n → ∀ j u, (insC (g i)).toList[j]? = some u → w.cell? ⟨b, o + i * 5 + j, none⟩ = some u)
theorem InsAt.keep {w w' : World} {A : Option Addr} {n cap : Nat} {g : Nat → Cd.Ins} (h : InsAt w A n cap g) (k : Keeps (fun _ => False) w w') : InsAt w' A n cap g := by
  obtain ⟨h1, h2, h3 | ⟨b, o, h3, h4⟩⟩ := h
  · exact ⟨h1, h2, .inl h3⟩
  · exact ⟨h1, h2, .inr ⟨b, o, h3, fun i hi j u hu => k.cell' (h4 i hi j u hu) (fun f => f)⟩⟩
theorem insL_len (m : Nat → Int) (pc n : Nat) : (insL m pc n).length = n * 5 := by
  induction n with
  | zero => rfl
  | succ n ih => rw [insL_succ, List.length_append, ih]; simp [insC]; omega
theorem insL_get (m : Nat → Int) (pc : Nat) : ∀ n i, i < n → ∀ j u, (insC (nth m pc i)).toList[j]? = some u → (insL m pc n)[i * 5 + j]? = some u
  | 0, i, h, _, _, _ => by omega
  | n + 1, i, h, j, u, hu => by
    have hj : j < 5 := by
      have := (List.getElem?_eq_some_iff.1 hu).1
      simpa [insC] using this
    rw [insL_succ]
    by_cases hin : i < n
    · rw [List.getElem?_append_left (by rw [insL_len]; omega)]
      exact insL_get m pc n i hin j u hu
    · obtain rfl : i = n := by omega
      rw [List.getElem?_append_right (by rw [insL_len]; omega), insL_len, show i * 5 + j - i * 5 = j by omega]
      exact hu
theorem ins_of_owns {w : World} {B : Nat} {v : Value} {m : Nat → Int} {pc n : Nat} (h : w.ownsRow B 39 5 v n (insL m pc n)) : ∃ A cap, v = .slice A n cap ∧ InsAt w A n cap (nth m pc) := by
  by_cases h0 : n = 0
  · rcases h.2 with ⟨h1, h2⟩ | ⟨g, cap, cur, h1, h2, h3, h4, h5, _⟩
    · exact ⟨none, 0, by rw [h1, h2], by omega, by omega, .inl h0⟩
    · exact ⟨_, cap, h1, h4, by unfold maxLen at h5; omega, .inl h0⟩
  · obtain ⟨g, cap, h1, _, h3, h4, h5⟩ := owns_some h (by omega)
    refine ⟨_, cap, h1, h3, by unfold maxLen at h4; omega, .inr ⟨g, 0, rfl, fun i hi j u hu => ?_⟩⟩
    rw [Nat.zero_add]
    exact h5 _ _ (insL_get m pc n i hi j u hu)
/-- a part of it -/
theorem InsAt.from_ {w : World} {A : Option Addr} {n cap : Nat} {g : Nat → Cd.Ins} (h : InsAt w A n cap g) (k : Nat) (hk : k < n) : ∃ b o, A = some ⟨b, o, none⟩ ∧ InsAt w (some ⟨b, o + k * 5, none⟩) (n - k) (cap - k) (fun i => g (k + i)) := by
  obtain ⟨h1, h2, h3 | ⟨b, o, h3, h4⟩⟩ := h
  · omega
  · refine ⟨b, o, h3, by omega, by omega, .inr ⟨b, o + k * 5, rfl, fun i hi j u hu => ?_⟩⟩
    have := h4 (k + i) (by omega) j u hu
    rw [show o + k * 5 + i * 5 + j = o + (k + i) * 5 + j by omega]
    exact this
theorem InsAt.upto {w : World} {A : Option Addr} {n cap : Nat} {g : Nat → Cd.Ins} (h : InsAt w A n cap g) (k : Nat) (hk : k ≤ n) : InsAt w A k cap g := by
  obtain ⟨h1, h2, h3 | ⟨b, o, h3, h4⟩⟩ := h
  · exact ⟨by omega, h2, .inl (by omega)⟩
  · exact ⟨by omega, h2, .inr ⟨b, o, h3, fun i hi => h4 i (by omega)⟩⟩

set_option maxRecDepth 100000 in
set_option maxHeartbeats 1000000 in
theorem sameIns_same (A B : Option Addr) (n ca cb : Nat) (g g2 : Nat → Cd.Ins) (w : World) (h1 : InsAt w A n ca g) (h2 : InsAt w B n cb g2) (hg : ∀ i, i < n → g i = g2 i) :
    Calls Tryd.prog 11 #[.slice A n ca, .slice B n cb] w fun e w' => e = .returned (.bool true) ∧ Keeps (fun _ => False) w w' := by
  have b1 := h1.1
  have b2 := h2.1
  have b3 := h1.2.1
  have b4 := h2.2.1
  have H1 := Lib.hid h1
  have H2 := Lib.hid h2
  have HG := Lib.hid hg
  clear h1 h2 hg
  go_enter Tryd.func11, Tryd.ntmps11
  go_wp2_with fail
  go_loopw [5] (fun s5 wr => ∃ i : Nat, i ≤ n ∧ s5 = .int .i64 i ∧ Keeps (fun _ => False) w wr) (fun s5 _ => n - (intOf s5).toNat)
  case atStart => exact ⟨0, by omega, rfl, Keeps.refl _ w⟩
  case round =>
    obtain ⟨i, hi, rfl, hK⟩ := hrel
    by_cases hlt : i < n
    · obtain ⟨ga, oa, rfl, hca⟩ : ∃ g0 o, A = some ⟨g0, o, none⟩ ∧ ∀ j u, (insC (g i)).toList[j]? = some u → wr.cell? ⟨g0, o + i * 5 + j, none⟩ = some u := by
        obtain ⟨_, _, h3 | ⟨g0, o, h3, h4⟩⟩ := H1.out.keep hK
        · omega
        · exact ⟨g0, o, h3, h4 i hlt⟩
      obtain ⟨gb, ob, rfl, hcb⟩ : ∃ g0 o, B = some ⟨g0, o, none⟩ ∧ ∀ j u, (insC (g i)).toList[j]? = some u → wr.cell? ⟨g0, o + i * 5 + j, none⟩ = some u := by
        rw [HG.out i hlt]
        obtain ⟨_, _, h3 | ⟨g0, o, h3, h4⟩⟩ := H2.out.keep hK
        · omega
        · exact ⟨g0, o, h3, h4 i hlt⟩
      generalize g i = ins at *
      obtain ⟨op, S, T, D, imm⟩ := ins
      have p0 : wr.cell? ⟨ga, oa + i * 5, none⟩ = some (.int .i64 op) := hca 0 _ rfl
      have p1 := hca 1 _ rfl
      have p2 := hca 2 _ rfl
      have p3 := hca 3 _ rfl
      have p4 := hca 4 _ rfl
      have r0 : wr.cell? ⟨gb, ob + i * 5, none⟩ = some (.int .i64 op) := hcb 0 _ rfl
      have r1 := hcb 1 _ rfl
      have r2 := hcb 2 _ rfl
      have r3 := hcb 3 _ rfl
      have r4 := hcb 4 _ rfl
      clear hca hcb
      go_wp2_with fail
      go_quiet (fail)
      go_wp2_with fail
      go_roundw
      case rel => exact ⟨i + 1, by omega, by go_num, hK.drewN _⟩
      case measure => simp [intOf]; omega
    · obtain rfl : i = n := by omega
      go_wp2_with fail
      go_ret
      exact ⟨rfl, hK⟩
theorem len_any (p iv pv : Value) (A : Option Addr) (n cap : Nat) (hiv : iv = .slice A n cap) (hn : n ≤ 24) (w : World) :
    Calls Tryd.prog 12 #[.agg #[p, iv, pv]] w fun e w' => e = .returned (.int .i64 (4 * n)) ∧ Keeps (fun _ => False) w w' := by
  subst hiv
  go_enter Tryd.func12, Tryd.ntmps12
  go_wp2_with fail
  go_ret
  exact ⟨rfl, (Keeps.refl _ _).alloc _⟩
/-- how a region ends -/
def endsS (g : Nat → Cd.Ins) (n : Nat) : List UInt8 := if 1 < n ∧ Cd.kd (g (n - 2)).op = 1 then [98, 114, 97, 110, 99, 104] else [111, 110]
set_option maxHeartbeats 1000000 in
theorem ends_any (p pv : Value) (A : Option Addr) (n cap : Nat) (g : Nat → Cd.Ins) (hn : n ≤ 24) (hop : ∀ i, (g i).op < 54) (w : World) (h : InsAt w A n cap g) (t : List UInt8) (ht : Hid (t = endsS g n)) :
    Calls Tryd.prog 21 #[.agg #[p, .slice A n cap, pv]] w fun e w' => e = .returned (.string ⟨t.toArray⟩) ∧ Keeps (fun _ => False) w w' := by
  have b1 := h.1
  have b2 := h.2.1
  have kb := (Keeps.refl (fun _ => False) w).alloc (.cells #[p, .slice A n cap, pv] 30)
  have HI := Lib.hid (h.keep kb)
  have HK := Lib.hid kb
  clear h kb
  by_cases h1 : 1 < n
  · obtain ⟨b, o, rfl, hc⟩ : ∃ b o, A = some ⟨b, o, none⟩ ∧ (w.alloc (.cells #[p, .slice A n cap, pv] 30)).cell? ⟨b, o + (n - 2) * 5, none⟩ = some (.int .i64 (g (n - 2)).op) := by
      obtain ⟨_, _, h | ⟨b, o, h3, h4⟩⟩ := HI.out
      · omega
      · exact ⟨b, o, h3, h4 (n - 2) (by omega) 0 _ rfl⟩
    have hop2 := hop (n - 2)
    have HT := Lib.hid (show t = if Cd.kd (g (n - 2)).op = 1 then [98, 114, 97, 110, 99, 104] else [111, 110] by rw [ht.out]; unfold endsS; simp [h1])
    have hn2 : ((n : Int) - 2).toNat = n - 2 := by omega
    clear hop ht
    generalize (g (n - 2)).op = op at *
    go_enter Tryd.func21, Tryd.ntmps21
    go_wp2_with fail
    refine (Kind_any op hop2 _).mono ?_
    rintro e w2 ⟨rfl, hk2⟩
    have HK2 := Lib.hid (HK.out.trans hk2 (fun _ _ h => h))
    have HTS := Lib.hid (kd_test (Cd.kd op) (kd_lt6 op hop2))
    clear hk2
    generalize hkk : Cd.kd op = kx at *
    have HKK := Lib.hid hkk
    clear hkk
    generalize (⟨(Cd.kindS kx).toArray⟩ : ByteArray) = ks at *
    by_cases hb : kx = 1
    · have t1 : (ks.toList == [98, 114, 97, 110, 99, 104]) = true := by rw [HTS.out.2.1]; simp [hb]
      go_wp2_with fail
      go_ret
      have e : t = [98, 114, 97, 110, 99, 104] := by rw [HT.out, if_pos hb]
      subst e
      exact ⟨rfl, HK2.out⟩
    · have t1 : (ks.toList == [98, 114, 97, 110, 99, 104]) = false := by rw [HTS.out.2.1]; simp [hb]
      go_wp2_with fail
      go_ret
      have e : t = [111, 110] := by rw [HT.out, if_neg hb]
      subst e
      exact ⟨rfl, HK2.out⟩
  · go_enter Tryd.func21, Tryd.ntmps21
    go_wp2_with fail
    go_ret
    have e : t = [111, 110] := by rw [ht.out]; unfold endsS; simp [h1]
    subst e
    exact ⟨rfl, HK.out⟩

end Go.Proofs.YtlbdkcnbgdmpaaaDoor
