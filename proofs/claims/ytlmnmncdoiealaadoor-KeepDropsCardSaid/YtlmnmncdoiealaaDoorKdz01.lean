import Derived.Test.YtlmnmncdoiealaaDoorFoldL
import Derived.Test.YtlmnmncdoiealaaDoorKdz00
import Derived.Deep.RegionHeld3
import Derived.Test.YtlmnmncdoiealaaDoorLearn

/- OptL -/
/- Of better codes, what the walks need: ranges, and what Opt answers. -/
namespace Go.Proofs.YtlmnmncdoiealaaDoor
open Go.RowKit Go.Deep
set_option linter.unusedVariables false
set_option linter.unusedSimpArgs false

theorem regs_b {o : Ir.Op} {many : Int} (h : Ir.opErr o many = 0) (hs : Ir.isSum (Ir.kn o.k) = true) : 0 ≤ o.b ∧ o.b < 64 := by
  unfold Ir.opErr at h
  split at h
  · cases h
  split at h
  · cases h
  rename_i h2
  rw [Bool.not_eq_false] at h2
  simp only [Bool.and_eq_true, decide_eq_true_eq] at h2
  obtain ⟨⟨⟨h3, h4⟩, h5⟩, h6⟩ := h2
  unfold Ir.regs at h3
  simp only [Bool.and_eq_true, Bool.or_eq_true, decide_eq_true_eq, Bool.not_eq_true'] at h3
  unfold Ir.isSum at hs
  have hs := of_decide_eq_true hs
  rcases h3.2 with (h7 | h7) | h7
  · unfold Ir.hasB at h7
    simp at h7
    omega
  · omega
  · exact h7
theorem ops_ok_good {many : Int} {l : List Ir.Op} (h : Ir.Good many l) (hok : ∀ o ∈ l, OpOk o) : OpsOk l := by
  refine ⟨hok, fun o ho hs => ?_⟩
  obtain ⟨i, hi, rfl⟩ := List.getElem_of_mem ho
  have h1 := (Ir.errAt_zero.1 (h.each i hi)).1
  rw [List.getD_eq_getElem?_getD, List.getElem?_eq_getElem hi] at h1
  exact regs_b h1 hs
theorem fold_ops_ok {l : List Ir.Op} (h : OpsOk l) : ∀ o ∈ Ir.fold l, OpOk o := by
  intro o ho
  obtain ⟨i, hi, rfl⟩ := List.getElem_of_mem ho
  have hl := Ir.fold_len l
  have e := Ir.fold_at l i (by omega)
  rw [List.getD_eq_getElem?_getD, List.getElem?_eq_getElem hi] at e
  simp only [Option.getD_some] at e
  rw [e]
  exact foldOp_ok (facts_u l h i (by omega)) (h.ok _ (getD_mem (by omega)))
theorem sweepGo_mem : ∀ (n : Nat) (l : List Ir.Op), ∀ o ∈ Ir.sweepGo n l, o ∈ l
  | 0, _, _, h => h
  | n + 1, l, o, h => by
    unfold Ir.sweepGo at h
    split at h
    · rename_i i hi
      exact (List.eraseIdx_sublist l i).subset (sweepGo_mem n _ o h)
    · exact h
theorem opt_ops_ok {l : List Ir.Op} (h : OpsOk l) (v : Int) : ∀ o ∈ Ir.opt l v, OpOk o := by
  unfold Ir.opt
  split
  · exact h.ok
  · split
    · exact fold_ops_ok h
    · exact fun o ho => fold_ops_ok h o (sweepGo_mem _ _ o ho)
/-- what is wrong of a code and a level -/
def Ir.optFault (many : Int) (l : List Ir.Op) (level : Int) : Nat × Int := if (Ir.fault many l).1 ≠ 0 then Ir.fault many l else if level < 0 ∨ 2 < level then (2, -1) else (0, -1)
/-- WHAT Opt ANSWERS: a code, and an error -/
def OptIs (w : World) (ea : Nat → Addr) (pc many : Int) (l : List Ir.Op) (level : Int) (cv ev : Value) : Prop :=
  FaultIs w ea (Ir.optFault many l level) ev ∧
  (((Ir.optFault many l level).1 ≠ 0 ∧ cv = .agg #[.int .u32 0, .int .i64 0, .slice none 0 0]) ∨
   ((Ir.optFault many l level).1 = 0 ∧ ∃ A cap, cv = .agg #[.int .u32 pc, .int .i64 many, .slice A (Ir.opt l level).length cap] ∧ OpsAt w A (Ir.opt l level).length cap (Ir.opt l level) ∧ cap ≤ 9223372036854775807))
theorem OptIs.keep {w w' : World} {ea : Nat → Addr} {pc many : Int} {l : List Ir.Op} {level : Int} {cv ev : Value} (h : OptIs w ea pc many l level cv ev) (k : Keeps (fun _ => False) w w') : OptIs w' ea pc many l level cv ev := by
  obtain ⟨h1, h2⟩ := h
  refine ⟨h1.keep k, ?_⟩
  rcases h2 with h2 | ⟨h2, A, cap, h3, h4, h5⟩
  · exact .inl h2
  · exact .inr ⟨h2, A, cap, h3, h4.quiet k, h5⟩
end Go.Proofs.YtlmnmncdoiealaaDoor

/- Fold -/
/- The walk of opt.fold. -/
namespace Go.Proofs.YtlmnmncdoiealaaDoor
open Go.RowKit Go.Deep
set_option linter.unusedVariables false
set_option linter.unusedSimpArgs false

/-- the loop's state between two rounds -/
structure FoldAt (w wr : World) (mb g n cap i : Nat) (l : List Ir.Op) : Prop where
  facts : FactsAt wr mb i (Ir.factsOf ((Ir.fold l).take i))
  row : wr.ownsRow w.heap.size 35 6 (.slice (some ⟨g, 0, none⟩) n cap) n (opsL (foldTo l i))
  k : Keeps (fun _ => False) w wr
  hm : w.heap.size ≤ mb
  hg : w.heap.size ≤ g
  ne : mb ≠ g
  lt : mb < wr.heap.size
theorem FoldAt.keep {w wr w' : World} {mb g n cap i : Nat} {l : List Ir.Op} (F : FoldAt w wr mb g n cap i l) (k : Keeps (fun _ => False) wr w') : FoldAt w w' mb g n cap i l :=
  ⟨F.facts.keep k (fun h => h), owns_keep F.row k (fun _ _ h => h), F.k.trans k (fun _ _ h => h), F.hm, F.hg, F.ne, Nat.lt_of_lt_of_le F.lt k.size⟩
theorem FoldAt.get {w wr : World} {mb g n cap i : Nat} {l : List Ir.Op} (F : FoldAt w wr mb g n cap i l) (hl : l.length = n) (hi : i < n) (a : Nat) (ha : a = i * 6) : OpLies wr g a (l.getD i Ir.nop) ∧ ∀ q, wr.frozen? ⟨g, q, none⟩ = false := by
  have h := owns_get F.row ((foldTo_len l i (by omega)).trans hl) i hi a ha
  rw [foldTo_at l i (by omega)] at h
  exact h
/-- behind the round's store, if there was one: the row one op further -/
structure FoldMid (w wr : World) (mb g n cap i : Nat) (l : List Ir.Op) : Prop where
  facts : FactsAt wr mb i (Ir.factsOf ((Ir.fold l).take i))
  row : wr.ownsRow w.heap.size 35 6 (.slice (some ⟨g, 0, none⟩) n cap) n (opsL (foldTo l (i + 1)))
  k : Keeps (fun _ => False) w wr
  hm : w.heap.size ≤ mb
  hg : w.heap.size ≤ g
  ne : mb ≠ g
  lt : mb < wr.heap.size
theorem FoldMid.get {w wr : World} {mb g n cap i : Nat} {l : List Ir.Op} (F : FoldMid w wr mb g n cap i l) (hl : l.length = n) (hi : i < n) (a : Nat) (ha : a = i * 6) : OpLies wr g a (Ir.foldOp (Ir.factsOf ((Ir.fold l).take i)) (l.getD i Ir.nop)) := by
  have h := (owns_get F.row ((foldTo_len l (i + 1) (by omega)).trans hl) i hi a ha).1
  rw [foldTo_step l i (by omega), List.getD_eq_getElem?_getD, List.getElem?_set_self (by rw [foldTo_len l i (by omega)]; omega)] at h
  exact h
theorem FoldAt.same {w wr : World} {mb g n cap i : Nat} {l : List Ir.Op} (F : FoldAt w wr mb g n cap i l) (hl : l.length = n) (hi : i < n) (h : Ir.foldOp (Ir.factsOf ((Ir.fold l).take i)) (l.getD i Ir.nop) = l.getD i Ir.nop) : FoldMid w wr mb g n cap i l := by
  refine ⟨F.facts, ?_, F.k, F.hm, F.hg, F.ne, F.lt⟩
  have e : foldTo l (i + 1) = foldTo l i := by
    rw [foldTo_step l i (by omega), h, ← foldTo_at l i (by omega)]
    have hlt : i < (foldTo l i).length := by rw [foldTo_len l i (by omega)]; omega
    rw [List.getD_eq_getElem?_getD, List.getElem?_eq_getElem hlt]
    exact List.set_getElem_self hlt
  rw [e]
  exact F.row
theorem FoldAt.store {w wr : World} {mb g n cap i : Nat} {l : List Ir.Op} (F : FoldAt w wr mb g n cap i l) (hl : l.length = n) (hi : i < n) (p : Nat) (hp : p = i * 6) {k : ByteArray} {d a b im t : Int} (h : Ir.foldOp (Ir.factsOf ((Ir.fold l).take i)) (l.getD i Ir.nop) = ⟨k, d, a, b, im, t⟩) :
    FoldMid w ((((((wr.setCell ⟨g, p, none⟩ (.string k)).setCell ⟨g, p + 1, none⟩ (.int .i64 d)).setCell ⟨g, p + 2, none⟩ (.int .i64 a)).setCell ⟨g, p + 3, none⟩ (.int .i64 b)).setCell ⟨g, p + 4, none⟩ (.int .u32 im)).setCell ⟨g, p + 5, none⟩ (.int .i64 t)) mb g n cap i l := by
  obtain ⟨h1, h2⟩ := owns_set F.row ((foldTo_len l i (by omega)).trans hl) i hi ⟨k, d, a, b, im, t⟩ p hp
  refine ⟨F.facts.keep h2 F.ne, ?_, F.k.trans h2 (fun b hb h => by have := F.hg; omega), F.hm, F.hg, F.ne, Nat.lt_of_lt_of_le F.lt h2.size⟩
  rw [foldTo_step l i (by omega), h]
  exact h1
theorem FoldMid.keep {w wr w' : World} {mb g n cap i : Nat} {l : List Ir.Op} (F : FoldMid w wr mb g n cap i l) (k : Keeps (fun _ => False) wr w') : FoldMid w w' mb g n cap i l :=
  ⟨F.facts.keep k (fun h => h), owns_keep F.row k (fun _ _ h => h), F.k.trans k (fun _ _ h => h), F.hm, F.hg, F.ne, Nat.lt_of_lt_of_le F.lt k.size⟩
theorem FoldMid.next {w wr w' : World} {mb g n cap i : Nat} {l : List Ir.Op} (F : FoldMid w wr mb g n cap i l) (hl : l.length = n) (hi : i < n) (h : FactsAt w' mb (i + 1) (Ir.learn (Ir.factsOf ((Ir.fold l).take i)) (Ir.foldOp (Ir.factsOf ((Ir.fold l).take i)) (l.getD i Ir.nop)))) (k : Keeps (· = mb) wr w') : FoldAt w w' mb g n cap (i + 1) l := by
  refine ⟨by rw [facts_foldTo l i (by omega)]; exact h, owns_keep F.row k (fun q hq h => ?_), F.k.trans k (fun b hb h => by have := F.hm; omega), F.hm, F.hg, F.ne, Nat.lt_of_lt_of_le F.lt k.size⟩
  injection hq with hq
  exact F.ne (h.symm.trans hq.symm)
theorem rem64 (b : Int) : IntKind.i64.wrap (b.tmod 64) = b.tmod 64 ∧ i64R (b.tmod 64) := by
  have h1 := Int.tmod_lt_of_pos b (b := 64) (by omega)
  have h2 := Int.tmod_lt_of_pos (-b) (b := 64) (by omega)
  rw [Int.neg_tmod] at h2
  refine ⟨?_, ?_⟩
  · rw [IntKind.wrap_i64]; omega
  · unfold i64R; omega


end Go.Proofs.YtlmnmncdoiealaaDoor

/- Reads -/
/- The walk of opt.Reads. -/
namespace Go.Proofs.YtlmnmncdoiealaaDoor
open Go.RowKit Go.Deep
set_option linter.unusedVariables false
set_option linter.unusedSimpArgs false

def readsC (c : Nat) (d a b : Int) : List Int := (if Ir.hasA c then [a] else []) ++ (if Ir.hasB c && decide (c ≠ 5) then [b] else []) ++ (if Ir.isDiv c then [d] else [])
theorem reads_eq (o : Ir.Op) : Ir.reads o = readsC (Ir.kn o.k) o.d o.a o.b := rfl
theorem reads_le (o : Ir.Op) : (Ir.reads o).length ≤ 3 := by
  unfold Ir.reads
  split <;> split <;> split <;> simp
/-- a row of ints, as a result -/
def IntsAt (w : World) (l : List Int) (v : Value) : Prop := ∃ A n cap, v = .slice A n cap ∧ n = l.length ∧ cap ≤ 3 ∧ Reads w A n cap (fun i => .int .i64 (l.getD i 0))
theorem IntsAt.keep {w w' : World} {l : List Int} {v : Value} (h : IntsAt w l v) (k : Keeps (fun _ => False) w w') : IntsAt w' l v := by
  obtain ⟨A, n, cap, h1, h2, h3, h4⟩ := h
  exact ⟨A, n, cap, h1, h2, h3, h4.keep k (fun _ _ _ h => h)⟩
theorem ints_nil (w : World) : IntsAt w [] (.slice none 0 0) := ⟨none, 0, 0, rfl, rfl, by decide, Nat.le_refl _, .inl rfl⟩
theorem ints_one (w : World) (a : Int) (T : TypeId) : IntsAt (w.alloc (.cells #[.int .i64 a] T)) [a] (.slice (some ⟨w.heap.size, 0, none⟩) 1 1) :=
  ⟨_, 1, 1, rfl, rfl, by decide, Nat.le_refl _, .inr ⟨_, 0, rfl, by simp, fun i hi => by
    obtain rfl : i = 0 := by omega
    unfold World.cell?; rw [blk_alloc_new]; rfl⟩⟩
theorem ints_two (w : World) (a b : Int) (T : TypeId) : IntsAt (w.alloc (.cells #[.int .i64 a, .int .i64 b] T)) [a, b] (.slice (some ⟨w.heap.size, 0, none⟩) 2 2) :=
  ⟨_, 2, 2, rfl, rfl, by decide, Nat.le_refl _, .inr ⟨_, 0, rfl, by simp, fun i hi => by
    have h : i = 0 ∨ i = 1 := by omega
    rcases h with rfl | rfl <;> (unfold World.cell?; rw [blk_alloc_new]; rfl)⟩⟩
theorem ints_three (w : World) (a b d : Int) (T : TypeId) : IntsAt (w.alloc (.cells #[.int .i64 a, .int .i64 b, .int .i64 d] T)) [a, b, d] (.slice (some ⟨w.heap.size, 0, none⟩) 3 3) :=
  ⟨_, 3, 3, rfl, rfl, by decide, Nat.le_refl _, .inr ⟨_, 0, rfl, by simp, fun i hi => by
    have h : i = 0 ∨ i = 1 ∨ i = 2 := by omega
    rcases h with rfl | rfl | rfl <;> (unfold World.cell?; rw [blk_alloc_new]; rfl)⟩⟩
theorem ints_one' (w : World) (l : List Int) (a : Int) (T : TypeId) (b : Nat) (hb : b = w.heap.size) (hl : l = [a]) : IntsAt (w.alloc (.cells #[.int .i64 a] T)) l (.slice (some ⟨b, 0, none⟩) 1 1) := by
  subst hl hb
  exact ints_one w a T
theorem ints_two' (w : World) (l : List Int) (a b : Int) (T : TypeId) (g : Nat) (hb : g = w.heap.size) (hl : l = [a, b]) : IntsAt (w.alloc (.cells #[.int .i64 a, .int .i64 b] T)) l (.slice (some ⟨g, 0, none⟩) 2 2) := by
  subst hl hb
  exact ints_two w a b T
theorem ints_three' (w : World) (l : List Int) (a b d : Int) (T : TypeId) (g : Nat) (hb : g = w.heap.size) (hl : l = [a, b, d]) : IntsAt (w.alloc (.cells #[.int .i64 a, .int .i64 b, .int .i64 d] T)) l (.slice (some ⟨g, 0, none⟩) 3 3) := by
  subst hl hb
  exact ints_three w a b d T
end Go.Proofs.YtlmnmncdoiealaaDoor

/- Contains -/
/- The walks of slices.Index, slices.Contains over ints. -/
namespace Go.Proofs.YtlmnmncdoiealaaDoor
open Go.RowKit Go.Deep
set_option linter.unusedVariables false
set_option linter.unusedSimpArgs false

set_option maxHeartbeats 1000000 in
theorem idx_any (A : Option Addr) (n cap : Nat) (l : List Int) (x : Int) (w : World) (hR : Reads w A n cap (fun i => .int .i64 (l.getD i 0))) (hn : n = l.length) (hc : cap ≤ 9223372036854775807) :
    Calls Tryd.prog 58 #[.slice A n cap, .int .i64 x] w fun e w' => ∃ r : Int, e = .returned (.int .i64 r) ∧ decide (0 ≤ r) = l.contains x ∧ w' = w := by
  have HR := Lib.hid hR
  have HN := Lib.hid hn
  have hnc : n ≤ cap := hR.1
  clear hR hn
  go_enter Tryd.func58, Tryd.ntmps58
  go_wp2_with fail
  go_loopw [8] (fun s8 wr => ∃ i : Nat, i ≤ n ∧ s8 = .int .i64 i ∧ (∀ j, j < i → l.getD j 0 ≠ x) ∧ w = wr) (fun s8 _ => n - (intOf s8).toNat)
  case atStart => exact ⟨0, by omega, rfl, fun j hj => absurd hj (Nat.not_lt_zero _), rfl⟩
  case round =>
    obtain ⟨i, hi, rfl, hf, rfl⟩ := hrel
    have HF := Lib.hid hf
    clear hf
    by_cases hlt : i < n
    · obtain ⟨h1, h2 | ⟨b, o, rfl, hb, hcell⟩⟩ := HR.out
      · omega
      have e := hcell i hlt
      have HM := Lib.hid (show l.getD i 0 ∈ l by
        rw [List.getD_eq_getElem?_getD, List.getElem?_eq_getElem (by rw [← HN.out]; exact hlt)]
        exact List.getElem_mem _)
      obtain ⟨y, hy⟩ : ∃ y, l.getD i 0 = y := ⟨_, rfl⟩
      have HY := Lib.hid hy
      simp only [hy] at e
      rw [hy] at HM
      clear hcell hy
      by_cases hxy : x = y
      · have t1 : (x == y) = true := by simpa using hxy
        have HC := Lib.hid (show l.contains x = true by rw [hxy, List.contains_iff_mem]; exact HM.out)
        clear hxy
        go_wp2_with fail
        go_ret
        exact ⟨_, rfl, by rw [HC.out]; exact decide_eq_true (by omega), rfl⟩
      · have t1 : (x == y) = false := by simpa using hxy
        have HF2 := Lib.hid (show ∀ j, j < i + 1 → l.getD j 0 ≠ x from fun j hj => by
          by_cases e : j = i
          · rw [e, HY.out]; exact fun h => hxy h.symm
          · exact HF.out j (by omega))
        clear hxy
        go_wp2_with fail
        go_roundw
        case rel => exact ⟨i + 1, by omega, by go_num, HF2.out, trivial⟩
        case measure => simp [intOf]; omega
    · obtain rfl : i = n := by omega
      have HC := Lib.hid (show l.contains x = false by
        rw [Bool.eq_false_iff, ne_eq, List.contains_iff_mem]
        intro hm
        obtain ⟨j, hj, e⟩ := List.getElem_of_mem hm
        have := HF.out j (by rw [HN.out]; exact hj)
        rw [List.getD_eq_getElem?_getD, List.getElem?_eq_getElem hj] at this
        exact this e)
      go_wp2_with fail
      go_ret
      exact ⟨_, rfl, by rw [HC.out]; rfl, rfl⟩
theorem contains_any (A : Option Addr) (n cap : Nat) (l : List Int) (x : Int) (w : World) (hR : Reads w A n cap (fun i => .int .i64 (l.getD i 0))) (hn : n = l.length) (hc : cap ≤ 9223372036854775807) :
    Calls Tryd.prog 37 #[.slice A n cap, .int .i64 x] w fun e w' => e = .returned (.bool (l.contains x)) ∧ w' = w := by
  have HI := Lib.hid (fun w hR => idx_any A n cap l x w hR hn hc)
  have HR := Lib.hid hR
  clear hR hn
  generalize l.contains x = r at *
  go_enter Tryd.func37, Tryd.ntmps37
  go_wp2_with fail
  refine (HI.out _ HR.out).mono ?_
  rintro e w' ⟨q, rfl, hq, rfl⟩
  go_wp2_with fail
  go_ret
  exact ⟨rfl, rfl⟩
/-- .. of a result -/
theorem contains_at (v : Value) (l : List Int) (x : Int) (w : World) (h : IntsAt w l v) :
    Calls Tryd.prog 37 #[v, .int .i64 x] w fun e w' => e = .returned (.bool (l.contains x)) ∧ w' = w := by
  obtain ⟨A, n, cap, rfl, hn, hc, hR⟩ := h
  exact contains_any A n cap l x w hR hn (by omega)
end Go.Proofs.YtlmnmncdoiealaaDoor

/- Dead -/
/- The walk of opt.dead. -/
namespace Go.Proofs.YtlmnmncdoiealaaDoor
open Go.RowKit Go.Deep
set_option linter.unusedVariables false
set_option linter.unusedSimpArgs false

theorem deadGo_step (d : Int) (l : List Ir.Op) (i : Nat) (hi : i < l.length) (seen : Bool) : Ir.deadGo d (l.drop i) seen =
    if (Ir.reads (l.getD i Ir.nop)).contains d then false else if Ir.writes (l.getD i Ir.nop) = d then (decide (33 < d) || !seen) else Ir.deadGo d (l.drop (i + 1)) (seen || (Ir.kn (l.getD i Ir.nop).k == 7)) := by
  have e : l.drop i = l.getD i Ir.nop :: l.drop (i + 1) := by
    rw [List.drop_eq_getElem_cons hi]
    congr 1
    simp [List.getD, hi]
  rw [e, nat_beq]
  rfl
theorem plainK_c (k : ByteArray) : Ir.plainK (Ir.kn k) = ((Ir.kn k == 1) || (Ir.kn k == 2) || Ir.isSum (Ir.kn k)) := by
  unfold Ir.plainK
  rw [nat_beq, nat_beq]
  simp [Bool.decide_or]
end Go.Proofs.YtlmnmncdoiealaaDoor
