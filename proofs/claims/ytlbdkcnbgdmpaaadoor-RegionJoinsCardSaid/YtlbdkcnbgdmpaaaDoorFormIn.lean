
/- A region that is being formed, as it lies; the walks of region.at, next, full. -/
import Derived.Test.YtlbdkcnbgdmpaaaDoorFormDefs
import Derived.Test.YtlbdkcnbgdmpaaaDoorDecode
import Derived.Test.YtlbdkcnbgdmpaaaDoorBusTold
import Derived.Test.YtlbdkcnbgdmpaaaDoorStored
import Derived.Test.YtlbdkcnbgdmpaaaDoorInts
import Derived.Test.YtlbdkcnbgdmpaaaDoorBused
namespace Go.Proofs.YtlbdkcnbgdmpaaaDoor
open Go.RowKit Go.Deep
set_option linter.unusedVariables false

theorem Tryd.info_ins : (Tryd.prog.info? 39).map (fun i => (i.zero, i.size, i.bytes)) = some (some (.agg #[.int .i64 0, .int .i64 0, .int .i64 0, .int .i64 0, .int .u32 0]), 5, 40) := by kernel_rfl
theorem Tryd.info_int : (Tryd.prog.info? 3).map (fun i => (i.zero, i.size, i.bytes)) = some (some (.int .i64 0), 1, 8) := by kernel_rfl

/-- the instruction at a place of memory -/
def insAt (m : Nat → Int) (pc : Nat) : Cd.Ins := Cd.decOf (be m pc 4)
/-- the k-th instruction from a place on -/
def nth (m : Nat → Int) (pc k : Nat) : Cd.Ins := insAt m (pc + 4 * k)
def kdAt (m : Nat → Int) (pc k : Nat) : Nat := Cd.kd (nth m pc k).op
/-- the cells of a row of instructions -/
def insL (m : Nat → Int) (pc n : Nat) : List Value := (List.range n).flatMap fun k => (insC (nth m pc k)).toList
theorem insL_zero (m : Nat → Int) (pc : Nat) : insL m pc 0 = [] := rfl
theorem insL_succ (m : Nat → Int) (pc n : Nat) : insL m pc (n + 1) = insL m pc n ++ (insC (nth m pc n)).toList := by
  unfold insL
  rw [List.range_succ, List.flatMap_append]
  simp
def pageL (ps : List Nat) : List Value := ps.map fun p : Nat => .int .i64 (p : Int)

structure FAt (w : World) (B f r : Nat) (most : Int) (pc : Nat) (iv pv : Value) (n : Nat) (ps : List Nat) (st : Nat) (m : Nat → Int) : Prop where
  box : w.heap[f]? = some (.cells #[.pointer (some ⟨r, 0, none⟩), .int .i64 most, .int .u32 pc, iv, pv, .int .i64 st] 76 (0, 0))
  ins : w.ownsRow B 39 5 iv n (insL m pc n)
  pg : w.ownsRow B 3 1 pv ps.length (pageL ps)
  low : B ≤ f
  fi : iv.ownBlock ≠ some f
  fp : pv.ownBlock ≠ some f
  ip : iv.ownBlock = none ∨ iv.ownBlock ≠ pv.ownBlock
theorem FAt.cells {w : World} {B f r : Nat} {most : Int} {pc : Nat} {iv pv : Value} {n : Nat} {ps : List Nat} {st : Nat} {m : Nat → Int} (F : FAt w B f r most pc iv pv n ps st m) :
    w.cell? ⟨f, 0, none⟩ = some (.pointer (some ⟨r, 0, none⟩)) ∧ w.cell? ⟨f, 1, none⟩ = some (.int .i64 most) ∧ w.cell? ⟨f, 2, none⟩ = some (.int .u32 pc) ∧ w.cell? ⟨f, 3, none⟩ = some iv ∧ w.cell? ⟨f, 4, none⟩ = some pv ∧ w.cell? ⟨f, 5, none⟩ = some (.int .i64 st) := by
  refine ⟨?_, ?_, ?_, ?_, ?_, ?_⟩ <;> simp [World.cell?, F.box]
theorem FAt.keep {w w' : World} {B f r : Nat} {most : Int} {pc : Nat} {iv pv : Value} {n : Nat} {ps : List Nat} {st : Nat} {m : Nat → Int} {S : Nat → Prop} (F : FAt w B f r most pc iv pv n ps st m) (k : Keeps S w w') (h1 : ¬ S f) (h2 : ∀ g, iv.ownBlock = some g → ¬ S g) (h3 : ∀ g, pv.ownBlock = some g → ¬ S g) : FAt w' B f r most pc iv pv n ps st m where
  box := (k.block f (Array.getElem?_eq_some_iff.1 F.box).1 h1).trans F.box
  ins := owns_keep F.ins k h2
  pg := owns_keep F.pg k h3
  low := F.low
  fi := F.fi
  fp := F.fp
  ip := F.ip
theorem FAt.quiet {w w' : World} {B f r : Nat} {most : Int} {pc : Nat} {iv pv : Value} {n : Nat} {ps : List Nat} {st : Nat} {m : Nat → Int} (F : FAt w B f r most pc iv pv n ps st m) (k : Keeps (fun _ => False) w w') : FAt w' B f r most pc iv pv n ps st m :=
  F.keep k (fun h => h) (fun _ _ h => h) (fun _ _ h => h)
theorem FAt.slices {w : World} {B f r : Nat} {most : Int} {pc : Nat} {iv pv : Value} {n : Nat} {ps : List Nat} {st : Nat} {m : Nat → Int} (F : FAt w B f r most pc iv pv n ps st m) : (∃ A c, iv = .slice A n c) ∧ ∃ A c, pv = .slice A ps.length c := ⟨owns_slice F.ins, owns_slice F.pg⟩

set_option maxHeartbeats 1000000 in
theorem next_any (B f r : Nat) (most : Int) (pc : Nat) (iv pv : Value) (n : Nat) (ps : List Nat) (st : Nat) (m : Nat → Int) (w : World) (F : FAt w B f r most pc iv pv n ps st m) (hp : pc + 4 * n < 4294967296) :
    Calls Tryd.prog 33 #[.pointer (some ⟨f, 0, none⟩)] w fun e w' => e = .returned (.int .u32 ((pc + 4 * n : Nat) : Int)) ∧ Keeps (fun _ => False) w w' := by
  obtain ⟨c0, c1, c2, c3, c4, c5⟩ := F.cells
  obtain ⟨⟨A, cp, rfl⟩, _⟩ := F.slices
  clear F
  go_enter Tryd.func33, Tryd.ntmps33
  go_wp2_with fail
  go_quiet (fail)
  go_wp2
  go_ret
  refine ⟨ret_i ?_, (Keeps.refl _ w).drewN _⟩
  push_cast
  rfl

theorem ret_b {a b : Bool} (h : a = b) : Ending.returned (.bool a) = .returned (.bool b) := by rw [h]
set_option maxHeartbeats 1000000 in
theorem index_any (A : Option Addr) (n cap : Nat) (f : Nat → Int) (p : Int) (w : World) (h : IntsAt w A n cap f) :
    Calls Tryd.prog 64 #[.slice A n cap, .int .i64 p] w fun e w' => ∃ r : Int, e = .returned (.int .i64 r) ∧ (0 ≤ r ↔ ∃ i, i < n ∧ f i = p) ∧ w = w' := by
  have hc1 := h.1
  have hc2 := h.2.1
  have H := Lib.hid h
  clear h
  go_enter Tryd.func64, Tryd.ntmps64
  go_wp2_with fail
  go_loopw [8] (fun s8 wr => ∃ i : Nat, i ≤ n ∧ s8 = .int .i64 i ∧ w = wr ∧ ∀ k, k < i → f k ≠ p) (fun s8 _ => n - (intOf s8).toNat)
  case atStart => exact ⟨0, by omega, rfl, rfl, fun k hk => by omega⟩
  case round =>
    obtain ⟨i, hi, rfl, rfl, hne⟩ := hrel
    have HNE := Lib.hid hne
    clear hne
    by_cases hlt : i < n
    · obtain ⟨b, o, rfl, hc⟩ : ∃ b o, A = some ⟨b, o, none⟩ ∧ w.cell? ⟨b, o + i, none⟩ = some (.int .i64 (f i)) := by
        obtain ⟨_, _, h | ⟨b, o, h3, h4⟩⟩ := H.out
        · omega
        · exact ⟨b, o, h3, h4 i hlt⟩
      by_cases he : f i = p
      · have HI := Lib.hid (show ∃ k, k < n ∧ f k = p from ⟨i, hlt, he⟩)
        have t1 : (p == f i) = true := by rw [he]; simp
        generalize f i = fi at *
        clear he
        go_wp2_with fail
        go_ret
        exact ⟨i, rfl, ⟨fun _ => HI.out, fun _ => by omega⟩, rfl⟩
      · have HI := Lib.hid (show ∀ k, k < i + 1 → f k ≠ p from fun k hk => by
          by_cases h : k = i
          · rw [h]; exact he
          · exact HNE.out k (by omega))
        have t1 : (p == f i) = false := by simp; exact fun h => he h.symm
        generalize f i = fi at *
        clear he
        go_wp2_with fail
        go_roundw
        case rel => exact ⟨i + 1, by omega, by go_num, by first | rfl | trivial, HI.out⟩
        case measure => simp [intOf]; omega
    · obtain rfl : i = n := by omega
      go_wp2_with fail
      go_ret
      exact ⟨-1, rfl, ⟨fun h => by omega, fun ⟨k, hk, e⟩ => absurd e (HNE.out k hk)⟩, rfl⟩
theorem contains_any (A : Option Addr) (n cap : Nat) (f : Nat → Int) (p : Int) (b : Bool) (w : World) (h : IntsAt w A n cap f) (hb : b = true ↔ ∃ i, i < n ∧ f i = p) :
    Calls Tryd.prog 47 #[.slice A n cap, .int .i64 p] w fun e w' => e = .returned (.bool b) ∧ w = w' := by
  go_enter Tryd.func47, Tryd.ntmps47
  go_wp2_with fail
  refine (index_any A n cap f p _ h).mono ?_
  rintro e w' ⟨r, rfl, hr, rfl⟩
  have HR := Lib.hid hr
  clear h hr
  go_wp2_with fail
  go_ret
  refine ⟨ret_b ?_, rfl⟩
  rw [Bool.eq_iff_iff, hb, ← HR.out, decide_eq_true_iff]

/-- a kind's text, tested -/
theorem kd_test (k : Nat) (hk : k < 6) : ((⟨(Cd.kindS k).toArray⟩ : ByteArray).toList == [115, 116, 111, 114, 101]) = decide (k = 3) ∧ ((⟨(Cd.kindS k).toArray⟩ : ByteArray).toList == [98, 114, 97, 110, 99, 104]) = decide (k = 1) ∧ ((⟨(Cd.kindS k).toArray⟩ : ByteArray).toList == [116, 114, 97, 112]) = decide (k = 4) := by
  have : k = 0 ∨ k = 1 ∨ k = 2 ∨ k = 3 ∨ k = 4 ∨ k = 5 := by omega
  rcases this with rfl | rfl | rfl | rfl | rfl | rfl <;> decide +kernel
theorem kd_lt6 (op : Nat) (h : op < 54) : Cd.kd op < 6 := by
  unfold Cd.kd
  split
  · omega
  · exact kd_lt op h
set_option maxHeartbeats 1000000 in
theorem full_any (B f r : Nat) (most : Int) (pc : Nat) (iv pv : Value) (n : Nat) (ps : List Nat) (st : Nat) (m : Nat → Int) (i : Cd.Ins) (hi : i.op < 54) (w : World) (F : FAt w B f r most pc iv pv n ps st m) :
    Calls Tryd.prog 34 #[.pointer (some ⟨f, 0, none⟩), .agg (insC i)] w fun e w' => e = .returned (.bool (decide (Cd.kd i.op = 3 ∧ 8 ≤ st))) ∧ Keeps (fun _ => False) w w' := by
  obtain ⟨op, S, T, D, imm⟩ := i
  have hb := blk_alloc_new w (.cells #[.int .i64 op, .int .i64 S, .int .i64 T, .int .i64 D, .int .u32 imm] 39)
  have kb := (Keeps.refl (fun _ => False) w).alloc (.cells #[.int .i64 op, .int .i64 S, .int .i64 T, .int .i64 D, .int .u32 imm] 39)
  have F1 := F.quiet kb
  have HKB := Lib.hid kb
  unfold insC
  go_enter Tryd.func34, Tryd.ntmps34
  go_wp2_with fail
  generalize w.alloc (.cells #[.int .i64 op, .int .i64 S, .int .i64 T, .int .i64 D, .int .u32 imm] 39) = wb at *
  obtain ⟨⟨c0, c1, c2, c3, c4⟩, _⟩ := cells5 hb
  clear hb kb
  go_wp2_with fail
  refine (Kind_any op hi _).mono ?_
  rintro e w2 ⟨rfl, hk2⟩
  obtain ⟨d0, d1, d2, d3, d4, d5⟩ := (F1.quiet hk2).cells
  have HK := Lib.hid (HKB.out.trans hk2 (fun _ _ h => h))
  have HT := Lib.hid (kd_test (Cd.kd op) (kd_lt6 op hi)).1
  clear c0 c1 c2 c3 c4 hk2 F F1
  by_cases h3 : Cd.kd op = 3
  · have t1 : ((⟨(Cd.kindS (Cd.kd op)).toArray⟩ : ByteArray).toList == [115, 116, 111, 114, 101]) = true := by rw [HT.out]; simp [h3]
    generalize (⟨(Cd.kindS (Cd.kd op)).toArray⟩ : ByteArray) = ks at *
    go_wp2_with fail
    go_ret
    exact ⟨ret_b (by rw [h3]; simp; try omega), HK.out⟩
  · have t1 : ((⟨(Cd.kindS (Cd.kd op)).toArray⟩ : ByteArray).toList == [115, 116, 111, 114, 101]) = false := by rw [HT.out]; simp [h3]
    generalize (⟨(Cd.kindS (Cd.kd op)).toArray⟩ : ByteArray) = ks at *
    go_wp2_with fail
    go_ret
    exact ⟨ret_b (by simp [h3]), HK.out⟩

/-- region.at -/
theorem at_end {w w2 : World} {b0 : Nat} {i : Cd.Ins} {T : TypeId} {a b c d e : Value} (hb : w.heap[b0]? = some (.cells #[a, b, c, d, e] T (0, 0))) (hk : Keeps (fun _ => False) w w2) :
    w2.heap[b0]? = some (.cells #[a, b, c, d, e] T (0, 0)) := (hk.block b0 (Array.getElem?_eq_some_iff.1 hb).1 (fun h => h)).trans hb
set_option maxRecDepth 100000 in
set_option maxHeartbeats 2000000 in
theorem at_any (r : Nat) (v : Int) (ok : Bool) (er : Value) (a : Int) (w : World) (hv : 0 ≤ v ∧ v < 4294967296) (her : ok = true ∧ er = .nilIface ∨ ok = false ∧ ∃ t p, er = .iface t (.pointer (some p)))
    (hload : ∀ w', Keeps (fun _ => False) w w' → Calls Tryd.prog 45 #[.pointer (some ⟨r, 0, none⟩), .int .u32 a, .int .i64 4, .bool false] w' fun e w2 => e = .returned (.tuple #[.int .u32 v, er]) ∧ w' = w2) :
    Calls Tryd.prog 32 #[.pointer (some ⟨r, 0, none⟩), .int .u32 a] w fun e w' => e = .returned (.tuple #[.agg (insC (Cd.decOf v)), .bool ok]) ∧ Keeps (fun _ => False) w w' := by
  have hb0 := blk_alloc_new w (.cells #[.int .i64 0, .int .i64 0, .int .i64 0, .int .i64 0, .int .u32 0] 39)
  have k0 := (Keeps.refl (fun _ => False) w).alloc (.cells #[.int .i64 0, .int .i64 0, .int .i64 0, .int .i64 0, .int .u32 0] 39)
  have HX := Lib.hid (Nat.le_refl w.heap.size)
  go_enter Tryd.func32, Tryd.ntmps32
  go_wp2_with fail
  refine (hload _ k0).mono ?_
  rintro e w1 ⟨rfl, rfl⟩
  have HL := Lib.hid hload
  clear hload
  go_wp2_with fail
  generalize w.alloc (.cells #[.int .i64 0, .int .i64 0, .int .i64 0, .int .i64 0, .int .u32 0] 39) = w0 at *
  generalize hx : w.heap.size = x at *
  have HXE := Lib.hid hx
  clear hx
  rcases her with ⟨rfl, rfl⟩ | ⟨rfl, tt, pp, rfl⟩
  all_goals
    go_region_with (go_at_call 46; refine (decode_any v hv _).mono ?_; rintro e w2 ⟨rfl, hk2⟩; have hbx := at_end (i := ⟨0, 0, 0, 0, 0⟩) hb0 (Keeps.trans (by repeat (first | exact Keeps.refl _ _ | apply Keeps.drew)) hk2 (fun _ _ h => h)); obtain ⟨⟨c0, c1, c2, c3, c4⟩, f0, f1, f2, f3, f4⟩ := cells5 hbx; generalize hdi : Cd.decOf v = di at *; have HDI := Lib.hid hdi; clear hdi; obtain ⟨op, S, T, D, imm⟩ := di; simp only [insC]; have H5 := Lib.hid (set5 (a' := .int .i64 op) (b' := .int .i64 S) (c' := .int .i64 T) (d' := .int .i64 D) (e' := .int .u32 imm) hbx); have HK2 := Lib.hid hk2; clear hk2)
    all_goals (
      clear hbx c0 c1 c2 c3 c4 f0 f1 f2 f3 f4 hb0
      generalize (((((w2.setCell ⟨x, 0, none⟩ (.int .i64 op)).setCell ⟨x, 1, none⟩ (.int .i64 S)).setCell ⟨x, 2, none⟩ (.int .i64 T)).setCell ⟨x, 3, none⟩ (.int .i64 D)).setCell ⟨x, 4, none⟩ (.int .u32 imm)) = WW at *
      go_wp2_with fail
      obtain ⟨⟨d0, d1, d2, d3, d4⟩, _⟩ := cells5 H5.out.1
      refine bodyPost_ret (v := .tuple #[.agg #[.int .i64 op, .int .i64 S, .int .i64 T, .int .i64 D, .int .u32 imm], _]) ?_ rfl ⟨by rw [HDI.out]; rfl, ?_⟩
      · simp only [Nat.zero_add] at d1 d2 d3 d4
        simp [results, Tryd.results32, go_sem, d0, d1, d2, d3, d4]
      · exact Keeps.trans (Keeps.trans (Keeps.trans k0 ((Keeps.refl _ w0).drew) (fun _ _ h => h)) HK2.out (fun _ _ h => h)) H5.out.2 (fun k hk h => by have := HXE.out; omega))
theorem rightC4 (a : Nat) : rightC a 4 = if a % 4 ≠ 0 then 9 else if 16384 ≤ a then 10 else 0 := by
  unfold rightC
  rw [if_neg (by omega)]
  by_cases h1 : a % 4 ≠ 0
  · rw [if_pos (show (a : Int) % 4 ≠ 0 by omega), if_pos h1]
  · rw [if_neg (show ¬ (a : Int) % 4 ≠ 0 by omega), if_neg h1]
    by_cases h2 : 16384 ≤ a
    · rw [if_pos (show (16384 : Int) ≤ a by omega), if_pos h2]
    · rw [if_neg (show ¬ (16384 : Int) ≤ a by omega), if_neg h2]
theorem at_ok (r pb pw ph cp : Nat) (m : Nat → Int) (a : Nat) (w : World) (R : RamAt w r pb pw ph cp m) (h1 : a % 4 = 0) (h2 : a < 16384) :
    Calls Tryd.prog 32 #[.pointer (some ⟨r, 0, none⟩), .int .u32 a] w fun e w' => e = .returned (.tuple #[.agg (insC (insAt m a)), .bool true]) ∧ Keeps (fun _ => False) w w' := by
  have h : rightC a 4 = 0 := by rw [rightC4, if_neg (by omega), if_neg (by omega)]
  have hm : ∀ i, i < 4 → 0 ≤ m (a + i) ∧ m (a + i) < 256 := fun i hi => R.rng _ (by omega)
  have hw := wide_be (m := m) (a := a) (n := 4) (by omega) hm
  exact at_any r (be m a 4) true .nilIface a w (be_rng m a 4 hm) (.inl ⟨rfl, rfl⟩) fun w' hk => by
    have := load_ok r pb pw ph cp m a 4 false w' (R.keep hk (fun h => h) (fun h => h)) h
    rw [hw] at this
    exact this
theorem at_bad (r : Nat) (a : Nat) (w : World) (ea : Nat → Addr) (E : Errs3 w ea) (h1 : a % 4 = 0) (h2 : 16384 ≤ a) (ha : a < 4294967296) :
    Calls Tryd.prog 32 #[.pointer (some ⟨r, 0, none⟩), .int .u32 a] w fun e w' => e = .returned (.tuple #[.agg (insC (Cd.decOf 0)), .bool false]) ∧ Keeps (fun _ => False) w w' := by
  have h : rightC a 4 ≠ 0 := by rw [rightC4, if_neg (by omega), if_pos h2]; decide
  exact at_any r 0 false _ a w (by omega) (.inr ⟨rfl, _, _, rfl⟩) fun w' hk => load_bad ⟨r, 0, none⟩ a 4 false w' ea (E.keep hk ⟨fun h => h, fun h => h, fun h => h⟩) (by omega) h
end Go.Proofs.YtlbdkcnbgdmpaaaDoor
