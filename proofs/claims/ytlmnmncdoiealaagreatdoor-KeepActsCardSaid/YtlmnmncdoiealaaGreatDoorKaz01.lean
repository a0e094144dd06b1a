import Derived.Test.YtlmnmncdoiealaaGreatDoorFoldL
import Derived.Deep.RegionHeld3
import Derived.Test.YtlmnmncdoiealaaGreatDoorLearn
import Derived.Test.YtlmnmncdoiealaaGreatDoorKaz00
import Derived.LoopTactic
import Derived.Laws.Rows
import Derived.Laws.ResultCell

/- Fold -/
/- The walk of opt.fold. -/
namespace Go.Proofs.YtlmnmncdoiealaaGreatDoor
open Go.RowKit Go.Deep
set_option linter.unusedVariables false
set_option linter.unusedSimpArgs false

/-- the loop's state between two rounds -/
structure FoldAt (w wr : World) (mb g n cap i : Nat) (l : List Ir.Op) : Prop where
  facts : FactsAt wr mb i (Ir.factsOf ((Ir.fold l).take i))
  row : wr.ownsRow w.heap.size 64 6 (.slice (some ⟨g, 0, none⟩) n cap) n (opsL (foldTo l i))
  k : Keeps (fun _ => False) w wr
  hm : w.heap.size ≤ mb
  hg : w.heap.size ≤ g
  ne : mb ≠ g
  lt : mb < wr.heap.size
theorem FoldAt.keep {w wr w' : World} {mb g n cap i : Nat} {l : List Ir.Op} (F : FoldAt w wr mb g n cap i l) (k : Keeps (fun _ => False) wr w') : FoldAt w w' mb g n cap i l :=
  ⟨F.facts.keep k (fun h => h), owns_keep F.row k (fun _ _ h => h), F.k.trans k (fun _ _ h => h), F.hm, F.hg, F.ne, Nat.lt_of_lt_of_le F.lt k.size⟩
theorem FoldAt.get {w wr : World} {mb g n cap i : Nat} {l : List Ir.Op} (F : FoldAt w wr mb g n cap i l) (hl : l.length = n) (hi : i < n) (a : Nat) (ha : a = i * 6) : OpLies wr g a (l.getD i Ir.nop) ∧ ∀ q, wr.frozen? ⟨g, q, none⟩ = false := by
  have h := owns_get F.row ((foldTo_len l i (by omega)).trans hl) i hi a ha
  rw [foldTo_at l i (by omega)] at h
  exact h
/-- behind the round's store, if there was one: the row one op further -/
structure FoldMid (w wr : World) (mb g n cap i : Nat) (l : List Ir.Op) : Prop where
  facts : FactsAt wr mb i (Ir.factsOf ((Ir.fold l).take i))
  row : wr.ownsRow w.heap.size 64 6 (.slice (some ⟨g, 0, none⟩) n cap) n (opsL (foldTo l (i + 1)))
  k : Keeps (fun _ => False) w wr
  hm : w.heap.size ≤ mb
  hg : w.heap.size ≤ g
  ne : mb ≠ g
  lt : mb < wr.heap.size
theorem FoldMid.get {w wr : World} {mb g n cap i : Nat} {l : List Ir.Op} (F : FoldMid w wr mb g n cap i l) (hl : l.length = n) (hi : i < n) (a : Nat) (ha : a = i * 6) : OpLies wr g a (Ir.foldOp (Ir.factsOf ((Ir.fold l).take i)) (l.getD i Ir.nop)) := by
  have h := (owns_get F.row ((foldTo_len l (i + 1) (by omega)).trans hl) i hi a ha).1
  rw [foldTo_step l i (by omega), List.getD_eq_getElem?_getD, List.getElem?_set_self (by rw [foldTo_len l i (by omega)]; omega)] at h
  exact h
theorem FoldAt.same {w wr : World} {mb g n cap i : Nat} {l : List Ir.Op} (F : FoldAt w wr mb g n cap i l) (hl : l.length = n) (hi : i < n) (h : Ir.foldOp (Ir.factsOf ((Ir.fold l).take i)) (l.getD i Ir.nop) = l.getD i Ir.nop) : FoldMid w wr mb g n cap i l := by
  refine ⟨F.facts, ?_, F.k, F.hm, F.hg, F.ne, F.lt⟩
  have e : foldTo l (i + 1) = foldTo l i := by
    rw [foldTo_step l i (by omega), h, ← foldTo_at l i (by omega)]
    have hlt : i < (foldTo l i).length := by rw [foldTo_len l i (by omega)]; omega
    rw [List.getD_eq_getElem?_getD, List.getElem?_eq_getElem hlt]
    exact List.set_getElem_self hlt
  rw [e]
  exact F.row
theorem FoldAt.store {w wr : World} {mb g n cap i : Nat} {l : List Ir.Op} (F : FoldAt w wr mb g n cap i l) (hl : l.length = n) (hi : i < n) (p : Nat) (hp : p = i * 6) {k : ByteArray} {d a b im t : Int} (h : Ir.foldOp (Ir.factsOf ((Ir.fold l).take i)) (l.getD i Ir.nop) = ⟨k, d, a, b, im, t⟩) :
    FoldMid w ((((((wr.setCell ⟨g, p, none⟩ (.string k)).setCell ⟨g, p + 1, none⟩ (.int .i64 d)).setCell ⟨g, p + 2, none⟩ (.int .i64 a)).setCell ⟨g, p + 3, none⟩ (.int .i64 b)).setCell ⟨g, p + 4, none⟩ (.int .u32 im)).setCell ⟨g, p + 5, none⟩ (.int .i64 t)) mb g n cap i l := by
  obtain ⟨h1, h2⟩ := owns_set F.row ((foldTo_len l i (by omega)).trans hl) i hi ⟨k, d, a, b, im, t⟩ p hp
  refine ⟨F.facts.keep h2 F.ne, ?_, F.k.trans h2 (fun b hb h => by have := F.hg; omega), F.hm, F.hg, F.ne, Nat.lt_of_lt_of_le F.lt h2.size⟩
  rw [foldTo_step l i (by omega), h]
  exact h1
theorem FoldMid.keep {w wr w' : World} {mb g n cap i : Nat} {l : List Ir.Op} (F : FoldMid w wr mb g n cap i l) (k : Keeps (fun _ => False) wr w') : FoldMid w w' mb g n cap i l :=
  ⟨F.facts.keep k (fun h => h), owns_keep F.row k (fun _ _ h => h), F.k.trans k (fun _ _ h => h), F.hm, F.hg, F.ne, Nat.lt_of_lt_of_le F.lt k.size⟩
theorem FoldMid.next {w wr w' : World} {mb g n cap i : Nat} {l : List Ir.Op} (F : FoldMid w wr mb g n cap i l) (hl : l.length = n) (hi : i < n) (h : FactsAt w' mb (i + 1) (Ir.learn (Ir.factsOf ((Ir.fold l).take i)) (Ir.foldOp (Ir.factsOf ((Ir.fold l).take i)) (l.getD i Ir.nop)))) (k : Keeps (· = mb) wr w') : FoldAt w w' mb g n cap (i + 1) l := by
  refine ⟨by rw [facts_foldTo l i (by omega)]; exact h, owns_keep F.row k (fun q hq h => ?_), F.k.trans k (fun b hb h => by have := F.hm; omega), F.hm, F.hg, F.ne, Nat.lt_of_lt_of_le F.lt k.size⟩
  injection hq with hq
  exact F.ne (h.symm.trans hq.symm)
theorem rem64 (b : Int) : IntKind.i64.wrap (b.tmod 64) = b.tmod 64 ∧ i64R (b.tmod 64) := by
  have h1 := Int.tmod_lt_of_pos b (b := 64) (by omega)
  have h2 := Int.tmod_lt_of_pos (-b) (b := 64) (by omega)
  rw [Int.neg_tmod] at h2
  refine ⟨?_, ?_⟩
  · rw [IntKind.wrap_i64]; omega
  · unfold i64R; omega


end Go.Proofs.YtlmnmncdoiealaaGreatDoor

/- Reads -/
/- The walk of opt.Reads. -/
namespace Go.Proofs.YtlmnmncdoiealaaGreatDoor
open Go.RowKit Go.Deep
set_option linter.unusedVariables false
set_option linter.unusedSimpArgs false

def readsC (c : Nat) (d a b : Int) : List Int := (if Ir.hasA c then [a] else []) ++ (if Ir.hasB c && decide (c ≠ 5) then [b] else []) ++ (if Ir.isDiv c then [d] else [])
theorem reads_eq (o : Ir.Op) : Ir.reads o = readsC (Ir.kn o.k) o.d o.a o.b := rfl
theorem reads_le (o : Ir.Op) : (Ir.reads o).length ≤ 3 := by
  unfold Ir.reads
  split <;> split <;> split <;> simp
/-- a row of ints, as a result -/
def IntsAt (w : World) (l : List Int) (v : Value) : Prop := ∃ A n cap, v = .slice A n cap ∧ n = l.length ∧ cap ≤ 3 ∧ Reads w A n cap (fun i => .int .i64 (l.getD i 0))
theorem IntsAt.keep {w w' : World} {l : List Int} {v : Value} (h : IntsAt w l v) (k : Keeps (fun _ => False) w w') : IntsAt w' l v := by
  obtain ⟨A, n, cap, h1, h2, h3, h4⟩ := h
  exact ⟨A, n, cap, h1, h2, h3, h4.keep k (fun _ _ _ h => h)⟩
theorem ints_nil (w : World) : IntsAt w [] (.slice none 0 0) := ⟨none, 0, 0, rfl, rfl, by decide, Nat.le_refl _, .inl rfl⟩
theorem ints_one (w : World) (a : Int) (T : TypeId) : IntsAt (w.alloc (.cells #[.int .i64 a] T)) [a] (.slice (some ⟨w.heap.size, 0, none⟩) 1 1) :=
  ⟨_, 1, 1, rfl, rfl, by decide, Nat.le_refl _, .inr ⟨_, 0, rfl, by simp, fun i hi => by
    obtain rfl : i = 0 := by omega
    unfold World.cell?; rw [blk_alloc_new]; rfl⟩⟩
theorem ints_two (w : World) (a b : Int) (T : TypeId) : IntsAt (w.alloc (.cells #[.int .i64 a, .int .i64 b] T)) [a, b] (.slice (some ⟨w.heap.size, 0, none⟩) 2 2) :=
  ⟨_, 2, 2, rfl, rfl, by decide, Nat.le_refl _, .inr ⟨_, 0, rfl, by simp, fun i hi => by
    have h : i = 0 ∨ i = 1 := by omega
    rcases h with rfl | rfl <;> (unfold World.cell?; rw [blk_alloc_new]; rfl)⟩⟩
theorem ints_three (w : World) (a b d : Int) (T : TypeId) : IntsAt (w.alloc (.cells #[.int .i64 a, .int .i64 b, .int .i64 d] T)) [a, b, d] (.slice (some ⟨w.heap.size, 0, none⟩) 3 3) :=
  ⟨_, 3, 3, rfl, rfl, by decide, Nat.le_refl _, .inr ⟨_, 0, rfl, by simp, fun i hi => by
    have h : i = 0 ∨ i = 1 ∨ i = 2 := by omega
    rcases h with rfl | rfl | rfl <;> (unfold World.cell?; rw [blk_alloc_new]; rfl)⟩⟩
theorem ints_one' (w : World) (l : List Int) (a : Int) (T : TypeId) (b : Nat) (hb : b = w.heap.size) (hl : l = [a]) : IntsAt (w.alloc (.cells #[.int .i64 a] T)) l (.slice (some ⟨b, 0, none⟩) 1 1) := by
  subst hl hb
  exact ints_one w a T
theorem ints_two' (w : World) (l : List Int) (a b : Int) (T : TypeId) (g : Nat) (hb : g = w.heap.size) (hl : l = [a, b]) : IntsAt (w.alloc (.cells #[.int .i64 a, .int .i64 b] T)) l (.slice (some ⟨g, 0, none⟩) 2 2) := by
  subst hl hb
  exact ints_two w a b T
theorem ints_three' (w : World) (l : List Int) (a b d : Int) (T : TypeId) (g : Nat) (hb : g = w.heap.size) (hl : l = [a, b, d]) : IntsAt (w.alloc (.cells #[.int .i64 a, .int .i64 b, .int .i64 d] T)) l (.slice (some ⟨g, 0, none⟩) 3 3) := by
  subst hl hb
  exact ints_three w a b d T
end Go.Proofs.YtlmnmncdoiealaaGreatDoor

/- Contains -/
/- The walks of slices.Index, slices.Contains over ints. -/
namespace Go.Proofs.YtlmnmncdoiealaaGreatDoor
open Go.RowKit Go.Deep
set_option linter.unusedVariables false
set_option linter.unusedSimpArgs false

set_option maxHeartbeats 1000000 in
theorem idx_any (A : Option Addr) (n cap : Nat) (l : List Int) (x : Int) (w : World) (hR : Reads w A n cap (fun i => .int .i64 (l.getD i 0))) (hn : n = l.length) (hc : cap ≤ 9223372036854775807) :
    Calls Tryz.prog 53 #[.slice A n cap, .int .i64 x] w fun e w' => ∃ r : Int, e = .returned (.int .i64 r) ∧ decide (0 ≤ r) = l.contains x ∧ w' = w := by
  have HR := Lib.hid hR
  have HN := Lib.hid hn
  have hnc : n ≤ cap := hR.1
  clear hR hn
  go_enter Tryz.func53, Tryz.ntmps53
  go_wp2_with fail
  go_loopw [8] (fun s8 wr => ∃ i : Nat, i ≤ n ∧ s8 = .int .i64 i ∧ (∀ j, j < i → l.getD j 0 ≠ x) ∧ w = wr) (fun s8 _ => n - (intOf s8).toNat)
  case atStart => exact ⟨0, by omega, rfl, fun j hj => absurd hj (Nat.not_lt_zero _), rfl⟩
  case round =>
    obtain ⟨i, hi, rfl, hf, rfl⟩ := hrel
    have HF := Lib.hid hf
    clear hf
    by_cases hlt : i < n
    · obtain ⟨h1, h2 | ⟨b, o, rfl, hb, hcell⟩⟩ := HR.out
      · omega
      have e := hcell i hlt
      have HM := Lib.hid (show l.getD i 0 ∈ l by
        rw [List.getD_eq_getElem?_getD, List.getElem?_eq_getElem (by rw [← HN.out]; exact hlt)]
        exact List.getElem_mem _)
      obtain ⟨y, hy⟩ : ∃ y, l.getD i 0 = y := ⟨_, rfl⟩
      have HY := Lib.hid hy
      simp only [hy] at e
      rw [hy] at HM
      clear hcell hy
      by_cases hxy : x = y
      · have t1 : (x == y) = true := by simpa using hxy
        have HC := Lib.hid (show l.contains x = true by rw [hxy, List.contains_iff_mem]; exact HM.out)
        clear hxy
        go_wp2_with fail
        go_ret
        exact ⟨_, rfl, by rw [HC.out]; exact decide_eq_true (by omega), rfl⟩
      · have t1 : (x == y) = false := by simpa using hxy
        have HF2 := Lib.hid (show ∀ j, j < i + 1 → l.getD j 0 ≠ x from fun j hj => by
          by_cases e : j = i
          · rw [e, HY.out]; exact fun h => hxy h.symm
          · exact HF.out j (by omega))
        clear hxy
        go_wp2_with fail
        go_roundw
        case rel => exact ⟨i + 1, by omega, by go_num, HF2.out, trivial⟩
        case measure => simp [intOf]; omega
    · obtain rfl : i = n := by omega
      have HC := Lib.hid (show l.contains x = false by
        rw [Bool.eq_false_iff, ne_eq, List.contains_iff_mem]
        intro hm
        obtain ⟨j, hj, e⟩ := List.getElem_of_mem hm
        have := HF.out j (by rw [HN.out]; exact hj)
        rw [List.getD_eq_getElem?_getD, List.getElem?_eq_getElem hj] at this
        exact this e)
      go_wp2_with fail
      go_ret
      exact ⟨_, rfl, by rw [HC.out]; rfl, rfl⟩
theorem contains_any (A : Option Addr) (n cap : Nat) (l : List Int) (x : Int) (w : World) (hR : Reads w A n cap (fun i => .int .i64 (l.getD i 0))) (hn : n = l.length) (hc : cap ≤ 9223372036854775807) :
    Calls Tryz.prog 38 #[.slice A n cap, .int .i64 x] w fun e w' => e = .returned (.bool (l.contains x)) ∧ w' = w := by
  have HI := Lib.hid (fun w hR => idx_any A n cap l x w hR hn hc)
  have HR := Lib.hid hR
  clear hR hn
  generalize l.contains x = r at *
  go_enter Tryz.func38, Tryz.ntmps38
  go_wp2_with fail
  refine (HI.out _ HR.out).mono ?_
  rintro e w' ⟨q, rfl, hq, rfl⟩
  go_wp2_with fail
  go_ret
  exact ⟨rfl, rfl⟩
/-- .. of a result -/
theorem contains_at (v : Value) (l : List Int) (x : Int) (w : World) (h : IntsAt w l v) :
    Calls Tryz.prog 38 #[v, .int .i64 x] w fun e w' => e = .returned (.bool (l.contains x)) ∧ w' = w := by
  obtain ⟨A, n, cap, rfl, hn, hc, hR⟩ := h
  exact contains_any A n cap l x w hR hn (by omega)
end Go.Proofs.YtlmnmncdoiealaaGreatDoor

/- Dead -/
/- The walk of opt.dead. -/
namespace Go.Proofs.YtlmnmncdoiealaaGreatDoor
open Go.RowKit Go.Deep
set_option linter.unusedVariables false
set_option linter.unusedSimpArgs false

theorem deadGo_step (d : Int) (l : List Ir.Op) (i : Nat) (hi : i < l.length) (seen : Bool) : Ir.deadGo d (l.drop i) seen =
    if (Ir.reads (l.getD i Ir.nop)).contains d then false else if Ir.writes (l.getD i Ir.nop) = d then (decide (33 < d) || !seen) else Ir.deadGo d (l.drop (i + 1)) (seen || (Ir.kn (l.getD i Ir.nop).k == 7)) := by
  have e : l.drop i = l.getD i Ir.nop :: l.drop (i + 1) := by
    rw [List.drop_eq_getElem_cons hi]
    congr 1
    simp [List.getD, hi]
  rw [e, nat_beq]
  rfl
theorem plainK_c (k : ByteArray) : Ir.plainK (Ir.kn k) = ((Ir.kn k == 1) || (Ir.kn k == 2) || Ir.isSum (Ir.kn k)) := by
  unfold Ir.plainK
  rw [nat_beq, nat_beq]
  simp [Bool.decide_or]
end Go.Proofs.YtlmnmncdoiealaaGreatDoor

/- Sweep -/
/- The walk of opt.sweep. -/
namespace Go.Proofs.YtlmnmncdoiealaaGreatDoor
open Go.RowKit Go.Deep
set_option linter.unusedVariables false
set_option linter.unusedSimpArgs false

def lenV : Value → Nat | .slice _ n _ => n | _ => 0
def trueN : Value → Nat | .bool true => 1 | _ => 0
end Go.Proofs.YtlmnmncdoiealaaGreatDoor

/- Known -/
/- The walks of opt.Dead, opt.Known. -/
namespace Go.Proofs.YtlmnmncdoiealaaGreatDoor
open Go.RowKit Go.Deep
set_option linter.unusedVariables false
set_option linter.unusedSimpArgs false

theorem range_step (p : Nat → Bool) (i : Nat) : (List.range (i + 1)).countP p = (List.range i).countP p + (if p i = true then 1 else 0) := by
  rw [List.range_succ, List.countP_append, List.countP_singleton]
theorem range_le (p : Nat → Bool) (i : Nat) : (List.range i).countP p ≤ i := by
  have := List.countP_le_length (p := p) (l := List.range i)
  simpa using this
/-- an error that is none, or one -/
theorem FaultIs.parts {w : World} {ea : Nat → Addr} {f : Nat × Int} {v : Value} (h : FaultIs w ea f v) : (f.1 = 0 ∧ v = .nilIface) ∨ (f.1 ≠ 0 ∧ ∃ t u, v = .iface t (.pointer (some u))) := by
  rcases h with ⟨h1, h2⟩ | ⟨h1, h2, h3⟩ | ⟨h1, h2, b, h3, _⟩
  · exact .inl ⟨h1, h2⟩
  · exact .inr ⟨h1, _, _, h3⟩
  · exact .inr ⟨h1, _, _, h3⟩
end Go.Proofs.YtlmnmncdoiealaaGreatDoor

/- Opt -/
/- The walk of opt.Opt. -/
namespace Go.Proofs.YtlmnmncdoiealaaGreatDoor
open Go.RowKit Go.Deep
set_option linter.unusedVariables false
set_option linter.unusedSimpArgs false

theorem set3c {w : World} {x : Nat} {T : TypeId} {a b c a' b' c' : Value} (h : w.heap[x]? = some (.cells #[a, b, c] T (0, 0))) :
    (((w.setCell ⟨x, 0, none⟩ a').setCell ⟨x, 1, none⟩ b').setCell ⟨x, 2, none⟩ c').heap[x]? = some (.cells #[a', b', c'] T (0, 0)) ∧
      Keeps (· = x) w (((w.setCell ⟨x, 0, none⟩ a').setCell ⟨x, 1, none⟩ b').setCell ⟨x, 2, none⟩ c') := by
  refine ⟨?_, Keeps.trans (Keeps.trans (Keeps.one _ _ _ _) (Keeps.one _ _ _ _) (fun _ _ h => h)) (Keeps.one _ _ _ _) (fun _ _ h => h)⟩
  have h1 := set_block (set_block (set_block h 0 a') 1 b') 2 c'
  simpa using h1
/-- a code's cells -/
def codeC (pc many : Int) (A : Option Addr) (n cap : Nat) : Array Value := #[.int .u32 pc, .int .i64 many, .slice A n cap]
theorem owns_cap {w : World} {base e size n cap : Nat} {A : Option Addr} {xs : List Value} (h : w.ownsRow base e size (.slice A n cap) n xs) : cap ≤ 9223372036854775807 := by
  obtain ⟨_, ⟨h2, h3⟩ | ⟨g, cap', cur, h2, h3, h4, h5, h6, h7, h8⟩⟩ := h
  · injection h2 with e1 e2 e3
    omega
  · injection h2 with e1 e2 e3
    subst e3
    unfold maxLen at h6
    omega
theorem OptIs.fails {w : World} {ea : Nat → Addr} {pc many : Int} {l : List Ir.Op} {level : Int} {ev : Value} (h : FaultIs w ea (Ir.optFault many l level) ev) (h0 : (Ir.optFault many l level).1 ≠ 0) : OptIs w ea pc many l level (.agg (codeC 0 0 none 0 0)) ev :=
  ⟨h, .inl ⟨h0, rfl⟩⟩
theorem OptIs.makes {w : World} {ea : Nat → Addr} {pc many : Int} {l l' : List Ir.Op} {level : Int} {A : Option Addr} {n cap : Nat} (h : Ir.optFault many l level = (0, -1)) (hl : Ir.opt l level = l') (V : OpsAt w A n cap l') (hc : cap ≤ 9223372036854775807) : OptIs w ea pc many l level (.agg (codeC pc many A n cap)) .nilIface := by
  refine ⟨.inl ⟨by rw [h], rfl⟩, .inr ⟨by rw [h], A, cap, ?_, ?_, hc⟩⟩
  · rw [hl, V.len]; rfl
  · rw [hl, V.len]; exact V

end Go.Proofs.YtlmnmncdoiealaaGreatDoor
