import Derived.Test.YtlbdkcnbgdmpaaaDoorTakesz0
import Derived.Test.YtlbdkcnbgdmpaaaDoorProg
import Derived.BigQuiet
import Derived.Lib.Hide
import Derived.Test.YtlbdkcnbgdmpaaaDoorTakesz7
import Derived.Test.YtlbdkcnbgdmpaaaDoorTakesz2
import Derived.Test.YtlbdkcnbgdmpaaaDoorTakesz12
import Derived.Deep.RegionHeld3

/- FormDefs -/
/- Regions, said plainly: how many instructions are taken; which pages these lie in. No program in sight. -/
namespace Go.Proofs.YtlbdkcnbgdmpaaaDoor
namespace Fm
/-- where a region ends: K the kinds, last the places that memory has, f the room, n taken so far, s stores so far -/
def go (K : Nat → Nat) (last : Nat) : Nat → Nat → Nat → Nat
  | 0, n, _ => n
  | f + 1, n, s =>
    if last ≤ n ∨ K n = 4 ∨ (K n = 3 ∧ 8 ≤ s) then n
    else if K n = 1 then (if n + 1 < last ∧ 1 ≤ f ∧ K (n + 1) ≠ 1 ∧ K (n + 1) ≠ 4 ∧ ¬ (K (n + 1) = 3 ∧ 8 ≤ s) then n + 2 else n)
    else go K last f (n + 1) (if K n = 3 then s + 1 else s)

theorem go_le (K : Nat → Nat) (last : Nat) : ∀ f n s, n ≤ go K last f n s ∧ go K last f n s ≤ n + f
  | 0, n, s => ⟨Nat.le_refl _, Nat.le_refl _⟩
  | f + 1, n, s => by
    have ih := go_le K last f (n + 1) (if K n = 3 then s + 1 else s)
    unfold go
    split
    · omega
    · split
      · split <;> omega
      · omega
theorem go_last (K : Nat → Nat) (last : Nat) : ∀ f n s, n ≤ last → go K last f n s ≤ last
  | 0, n, s, h => h
  | f + 1, n, s, h => by
    unfold go
    split
    · omega
    · split
      · split <;> omega
      · exact go_last K last f (n + 1) _ (by omega)
theorem go_first (K : Nat → Nat) (last f : Nat) (h : 0 < go K last f 0 0) : K 0 ≠ 4 ∧ 0 < last := by
  cases f with
  | zero => simp [go] at h
  | succ f =>
    unfold go at h
    split at h
    · omega
    · rename_i h2
      exact ⟨fun e => h2 (.inr (.inl e)), by omega⟩
/-- with more room, and fewer stores, it is no shorter -/
theorem go_mono (K K' : Nat → Nat) (last last' : Nat) : ∀ f n s f' n' s', f ≤ f' → s' ≤ s → (∀ k, K' (n' + k) = K (n + k)) → (∀ k, n + k < last ↔ n' + k < last') →
    go K last f n s - n ≤ go K' last' f' n' s' - n'
  | 0, n, s, f', n', s', _, _, _, _ => by simp [go]
  | f + 1, n, s, 0, n', s', h, _, _, _ => by omega
  | f + 1, n, s, f' + 1, n', s', hf, hs, hK, hl => by
    have k0 : K' n' = K n := hK 0
    have k1 : K' (n' + 1) = K (n + 1) := hK 1
    have l0 : n < last ↔ n' < last' := hl 0
    have l1 : n + 1 < last ↔ n' + 1 < last' := hl 1
    have ih := go_mono K K' last last' f (n + 1) (if K n = 3 then s + 1 else s) f' (n' + 1) (if K n = 3 then s' + 1 else s') (by omega) (by split <;> omega)
      (fun k => by have := hK (1 + k); rw [Nat.add_assoc, Nat.add_assoc]; exact this) (fun k => by have := hl (1 + k); rw [Nat.add_assoc, Nat.add_assoc]; exact this)
    have b1 := go_le K last f (n + 1) (if K n = 3 then s + 1 else s)
    have b2 := go_le K' last' f' (n' + 1) (if K n = 3 then s' + 1 else s')
    rw [go, go, k0, k1]
    by_cases c1 : last ≤ n ∨ K n = 4 ∨ (K n = 3 ∧ 8 ≤ s)
    · rw [if_pos c1]; omega
    · rw [if_neg c1, if_neg (show ¬ (last' ≤ n' ∨ K n = 4 ∨ (K n = 3 ∧ 8 ≤ s')) by omega)]
      by_cases c2 : K n = 1
      · rw [if_pos c2, if_pos c2]
        by_cases c3 : n + 1 < last ∧ 1 ≤ f ∧ K (n + 1) ≠ 1 ∧ K (n + 1) ≠ 4 ∧ ¬ (K (n + 1) = 3 ∧ 8 ≤ s)
        · rw [if_pos c3, if_pos (show n' + 1 < last' ∧ 1 ≤ f' ∧ K (n + 1) ≠ 1 ∧ K (n + 1) ≠ 4 ∧ ¬ (K (n + 1) = 3 ∧ 8 ≤ s') by omega)]
          omega
        · rw [if_neg c3]; omega
      · rw [if_neg c2, if_neg c2]; omega
/-- where the lesser room ends the greater goes by -/
theorem go_cut (K : Nat → Nat) (last : Nat) : ∀ f n s f', f ≤ f' → go K last f n s < go K last f' n s → ∃ s1, go K last f' n s = go K last (f' - (go K last f n s - n)) (go K last f n s) s1
  | 0, n, s, f', _, _ => ⟨s, by simp [go]⟩
  | f + 1, n, s, 0, h, _ => by omega
  | f + 1, n, s, f' + 1, hf, hlt => by
    have ih := go_cut K last f (n + 1) (if K n = 3 then s + 1 else s) f' (by omega)
    have b1 := go_le K last f (n + 1) (if K n = 3 then s + 1 else s)
    by_cases c1 : last ≤ n ∨ K n = 4 ∨ (K n = 3 ∧ 8 ≤ s)
    · rw [go, if_pos c1, go, if_pos c1] at hlt
      omega
    · by_cases c2 : K n = 1
      · by_cases c3 : n + 1 < last ∧ 1 ≤ f ∧ K (n + 1) ≠ 1 ∧ K (n + 1) ≠ 4 ∧ ¬ (K (n + 1) = 3 ∧ 8 ≤ s)
        · rw [go, if_neg c1, if_pos c2, if_pos c3, go, if_neg c1, if_pos c2, if_pos (show n + 1 < last ∧ 1 ≤ f' ∧ K (n + 1) ≠ 1 ∧ K (n + 1) ≠ 4 ∧ ¬ (K (n + 1) = 3 ∧ 8 ≤ s) by omega)] at hlt
          omega
        · have e : go K last (f + 1) n s = n := by rw [go, if_neg c1, if_pos c2, if_neg c3]
          rw [e]
          exact ⟨s, by rw [Nat.sub_self, Nat.sub_zero]⟩
      · have e1 : go K last (f + 1) n s = go K last f (n + 1) (if K n = 3 then s + 1 else s) := by rw [go, if_neg c1, if_neg c2]
        have e2 : go K last (f' + 1) n s = go K last f' (n + 1) (if K n = 3 then s + 1 else s) := by rw [go, if_neg c1, if_neg c2]
        rw [e1, e2] at hlt
        rw [e1, e2]
        obtain ⟨s1, h1⟩ := ih hlt
        refine ⟨s1, ?_⟩
        rw [h1, show f' + 1 - (go K last f (n + 1) (if K n = 3 then s + 1 else s) - n) = f' - (go K last f (n + 1) (if K n = 3 then s + 1 else s) - (n + 1)) by omega]
theorem go_more (K : Nat → Nat) (last f f' : Nat) (h : f ≤ f') : go K last f 0 0 ≤ go K last f' 0 0 := by
  have := go_mono K K last last f 0 0 f' 0 0 h (Nat.le_refl _) (fun _ => rfl) (fun _ => Iff.rfl)
  omega
/-- what is left is what begins there -/
theorem go_joins (K : Nat → Nat) (last f f' : Nat) (h : f ≤ f') (hlt : go K last f 0 0 < go K last f' 0 0) :
    go K last f' 0 0 - go K last f 0 0 ≤ go (fun k => K (go K last f 0 0 + k)) (last - go K last f 0 0) f' 0 0 := by
  obtain ⟨s1, e⟩ := go_cut K last f 0 0 f' h hlt
  have := go_mono K (fun k => K (go K last f 0 0 + k)) last (last - go K last f 0 0) (f' - (go K last f 0 0 - 0)) (go K last f 0 0) s1 f' 0 0 (by omega) (Nat.zero_le _) (fun k => by simp) (fun k => by omega)
  rw [← e] at this
  omega

/-- the pages of n instructions from a place on -/
def pages (pc n : Nat) : List Nat := if n = 0 then [] else List.range' (pc / 256) ((pc + 4 * (n - 1)) / 256 - pc / 256 + 1)
theorem pages_zero (pc : Nat) : pages pc 0 = [] := rfl
theorem pages_step (pc n : Nat) : pages pc (n + 1) = if (pc + 4 * n) / 256 ∈ pages pc n then pages pc n else pages pc n ++ [(pc + 4 * n) / 256] := by
  unfold pages
  rw [if_neg (by omega)]
  by_cases h : n = 0
  · subst h
    simp
  · rw [if_neg h]
    by_cases hp : (pc + 4 * n) / 256 = (pc + 4 * (n - 1)) / 256
    · rw [if_pos (by rw [List.mem_range'_1]; omega)]
      congr 1
      omega
    · rw [if_neg (by rw [List.mem_range'_1]; omega)]
      have e : (pc + 4 * (n + 1 - 1)) / 256 - pc / 256 + 1 = ((pc + 4 * (n - 1)) / 256 - pc / 256 + 1) + 1 := by omega
      rw [e, List.range'_concat]
      congr 2
      omega
theorem pages_len (pc n : Nat) (h : n ≤ 24) : (pages pc n).length ≤ 2 := by
  unfold pages
  split
  · simp
  · rw [List.length_range']; omega
end Fm
end Go.Proofs.YtlbdkcnbgdmpaaaDoor

/- Ints -/
/- The walk of the reference's SameInts over numbers that are the same. -/
namespace Go.Proofs.YtlbdkcnbgdmpaaaDoor
open Go.RowKit Go.Deep
set_option linter.unusedVariables false

/-- a slice of ints as it lies -/
def IntsAt (w : World) (A : Option Addr) (n cap : Nat) (f : Nat → Int) : Prop := n ≤ cap ∧ cap ≤ 9223372036854775807 ∧ (n = 0 ∨ ∃ b o, A = some ⟨b, o, none⟩ ∧ ∀ i, i < n → w.cell? ⟨b, o + i, none⟩ = some (.int .i64 (f i)))
theorem IntsAt.keep {w w' : World} {A : Option Addr} {n cap : Nat} {f : Nat → Int} (h : IntsAt w A n cap f) (k : Keeps (fun _ => False) w w') : IntsAt w' A n cap f := by
  obtain ⟨h1, h2, h3 | ⟨b, o, h3, h4⟩⟩ := h
  · exact ⟨h1, h2, .inl h3⟩
  · exact ⟨h1, h2, .inr ⟨b, o, h3, fun i hi => k.cell' (h4 i hi) (fun f => f)⟩⟩
theorem ints_new (w : World) (l : List Int) (T : TypeId) (hl : l.length ≤ 1000000) : IntsAt (w.alloc (.cells (l.map (Value.int .i64)).toArray T)) (some ⟨w.heap.size, 0, none⟩) l.length l.length (fun i => l.getD i 0) := by
  refine ⟨Nat.le_refl _, by omega, .inr ⟨_, 0, rfl, fun i hi => ?_⟩⟩
  have hb := blk_alloc_new w (.cells (l.map (Value.int .i64)).toArray T)
  rw [Nat.zero_add]
  unfold World.cell?
  rw [hb]
  simp [hi]

set_option maxRecDepth 100000 in
set_option maxHeartbeats 1000000 in
theorem sameInts_same (A B : Option Addr) (n ca cb : Nat) (f : Nat → Int) (w : World) (h1 : IntsAt w A n ca f) (h2 : IntsAt w B n cb f) :
    Calls Tryd.prog 19 #[.slice A n ca, .slice B n cb] w fun e w' => e = .returned (.bool true) ∧ Keeps (fun _ => False) w w' := by
  have b1 := h1.1
  have b2 := h2.1
  have b3 := h1.2.1
  have b4 := h2.2.1
  have H1 := Lib.hid h1
  have H2 := Lib.hid h2
  clear h1 h2
  go_enter Tryd.func19, Tryd.ntmps19
  go_wp2_with fail
  go_loopw [5] (fun s5 wr => ∃ i : Nat, i ≤ n ∧ s5 = .int .i64 i ∧ Keeps (fun _ => False) w wr) (fun s5 _ => n - (intOf s5).toNat)
  case atStart => exact ⟨0, by omega, rfl, Keeps.refl _ w⟩
  case round =>
    obtain ⟨i, hi, rfl, hK⟩ := hrel
    by_cases hlt : i < n
    · obtain ⟨ga, oa, rfl, p1⟩ : ∃ g o, A = some ⟨g, o, none⟩ ∧ wr.cell? ⟨g, o + i, none⟩ = some (.int .i64 (f i)) := by
        obtain ⟨_, _, h3 | ⟨g, o, h3, h4⟩⟩ := H1.out.keep hK
        · omega
        · exact ⟨g, o, h3, h4 i hlt⟩
      obtain ⟨gb, ob, rfl, p2⟩ : ∃ g o, B = some ⟨g, o, none⟩ ∧ wr.cell? ⟨g, o + i, none⟩ = some (.int .i64 (f i)) := by
        obtain ⟨_, _, h3 | ⟨g, o, h3, h4⟩⟩ := H2.out.keep hK
        · omega
        · exact ⟨g, o, h3, h4 i hlt⟩
      go_wp2_with fail
      go_quiet (fail)
      go_wp2_with fail
      go_roundw
      case rel => exact ⟨i + 1, by omega, by go_num, hK.drewN _⟩
      case measure => simp [intOf]; omega
    · obtain rfl : i = n := by omega
      go_wp2_with fail
      go_ret
      exact ⟨rfl, hK⟩
end Go.Proofs.YtlbdkcnbgdmpaaaDoor

/- FormIn -/
/- A region that is being formed, as it lies; the walks of region.at, next, full. -/
namespace Go.Proofs.YtlbdkcnbgdmpaaaDoor
open Go.RowKit Go.Deep
set_option linter.unusedVariables false

theorem Tryd.info_ins : (Tryd.prog.info? 39).map (fun i => (i.zero, i.size, i.bytes)) = some (some (.agg #[.int .i64 0, .int .i64 0, .int .i64 0, .int .i64 0, .int .u32 0]), 5, 40) := by kernel_rfl
theorem Tryd.info_int : (Tryd.prog.info? 3).map (fun i => (i.zero, i.size, i.bytes)) = some (some (.int .i64 0), 1, 8) := by kernel_rfl

/-- the instruction at a place of memory -/
def insAt (m : Nat → Int) (pc : Nat) : Cd.Ins := Cd.decOf (be m pc 4)
/-- the k-th instruction from a place on -/
def nth (m : Nat → Int) (pc k : Nat) : Cd.Ins := insAt m (pc + 4 * k)
def kdAt (m : Nat → Int) (pc k : Nat) : Nat := Cd.kd (nth m pc k).op
/-- the cells of a row of instructions -/
def insL (m : Nat → Int) (pc n : Nat) : List Value := (List.range n).flatMap fun k => (insC (nth m pc k)).toList
theorem insL_zero (m : Nat → Int) (pc : Nat) : insL m pc 0 = [] := rfl
theorem insL_succ (m : Nat → Int) (pc n : Nat) : insL m pc (n + 1) = insL m pc n ++ (insC (nth m pc n)).toList := by
  unfold insL
  rw [List.range_succ, List.flatMap_append]
  simp
def pageL (ps : List Nat) : List Value := ps.map fun p : Nat => .int .i64 (p : Int)

structure FAt (w : World) (B f r : Nat) (most : Int) (pc : Nat) (iv pv : Value) (n : Nat) (ps : List Nat) (st : Nat) (m : Nat → Int) : Prop where
  box : w.heap[f]? = some (.cells #[.pointer (some ⟨r, 0, none⟩), .int .i64 most, .int .u32 pc, iv, pv, .int .i64 st] 76 (0, 0))
  ins : w.ownsRow B 39 5 iv n (insL m pc n)
  pg : w.ownsRow B 3 1 pv ps.length (pageL ps)
  low : B ≤ f
  fi : iv.ownBlock ≠ some f
  fp : pv.ownBlock ≠ some f
  ip : iv.ownBlock = none ∨ iv.ownBlock ≠ pv.ownBlock
theorem FAt.cells {w : World} {B f r : Nat} {most : Int} {pc : Nat} {iv pv : Value} {n : Nat} {ps : List Nat} {st : Nat} {m : Nat → Int} (F : FAt w B f r most pc iv pv n ps st m) :
    w.cell? ⟨f, 0, none⟩ = some (.pointer (some ⟨r, 0, none⟩)) ∧ w.cell? ⟨f, 1, none⟩ = some (.int .i64 most) ∧ w.cell? ⟨f, 2, none⟩ = some (.int .u32 pc) ∧ w.cell? ⟨f, 3, none⟩ = some iv ∧ w.cell? ⟨f, 4, none⟩ = some pv ∧ w.cell? ⟨f, 5, none⟩ = some (.int .i64 st) := by
  refine ⟨?_, ?_, ?_, ?_, ?_, ?_⟩ <;> simp [World.cell?, F.box]
theorem FAt.keep {w w' : World} {B f r : Nat} {most : Int} {pc : Nat} {iv pv : Value} {n : Nat} {ps : List Nat} {st : Nat} {m : Nat → Int} {S : Nat → Prop} (F : FAt w B f r most pc iv pv n ps st m) (k : Keeps S w w') (h1 : ¬ S f) (h2 : ∀ g, iv.ownBlock = some g → ¬ S g) (h3 : ∀ g, pv.ownBlock = some g → ¬ S g) : FAt w' B f r most pc iv pv n ps st m where
  box := (k.block f (Array.getElem?_eq_some_iff.1 F.box).1 h1).trans F.box
  ins := owns_keep F.ins k h2
  pg := owns_keep F.pg k h3
  low := F.low
  fi := F.fi
  fp := F.fp
  ip := F.ip
theorem FAt.quiet {w w' : World} {B f r : Nat} {most : Int} {pc : Nat} {iv pv : Value} {n : Nat} {ps : List Nat} {st : Nat} {m : Nat → Int} (F : FAt w B f r most pc iv pv n ps st m) (k : Keeps (fun _ => False) w w') : FAt w' B f r most pc iv pv n ps st m :=
  F.keep k (fun h => h) (fun _ _ h => h) (fun _ _ h => h)
theorem FAt.slices {w : World} {B f r : Nat} {most : Int} {pc : Nat} {iv pv : Value} {n : Nat} {ps : List Nat} {st : Nat} {m : Nat → Int} (F : FAt w B f r most pc iv pv n ps st m) : (∃ A c, iv = .slice A n c) ∧ ∃ A c, pv = .slice A ps.length c := ⟨owns_slice F.ins, owns_slice F.pg⟩

set_option maxHeartbeats 1000000 in
theorem next_any (B f r : Nat) (most : Int) (pc : Nat) (iv pv : Value) (n : Nat) (ps : List Nat) (st : Nat) (m : Nat → Int) (w : World) (F : FAt w B f r most pc iv pv n ps st m) (hp : pc + 4 * n < 4294967296) :
    Calls Tryd.prog 33 #[.pointer (some ⟨f, 0, none⟩)] w fun e w' => e = .returned (.int .u32 ((pc + 4 * n : Nat) : Int)) ∧ Keeps (fun _ => False) w w' := by
  obtain ⟨c0, c1, c2, c3, c4, c5⟩ := F.cells
  obtain ⟨⟨A, cp, rfl⟩, _⟩ := F.slices
  clear F
  go_enter Tryd.func33, Tryd.ntmps33
  go_wp2_with fail
  go_quiet (fail)
  go_wp2
  go_ret
  refine ⟨ret_i ?_, (Keeps.refl _ w).drewN _⟩
  push_cast
  rfl

theorem ret_b {a b : Bool} (h : a = b) : Ending.returned (.bool a) = .returned (.bool b) := by rw [h]
set_option maxHeartbeats 1000000 in
theorem index_any (A : Option Addr) (n cap : Nat) (f : Nat → Int) (p : Int) (w : World) (h : IntsAt w A n cap f) :
    Calls Tryd.prog 64 #[.slice A n cap, .int .i64 p] w fun e w' => ∃ r : Int, e = .returned (.int .i64 r) ∧ (0 ≤ r ↔ ∃ i, i < n ∧ f i = p) ∧ w = w' := by
  have hc1 := h.1
  have hc2 := h.2.1
  have H := Lib.hid h
  clear h
  go_enter Tryd.func64, Tryd.ntmps64
  go_wp2_with fail
  go_loopw [8] (fun s8 wr => ∃ i : Nat, i ≤ n ∧ s8 = .int .i64 i ∧ w = wr ∧ ∀ k, k < i → f k ≠ p) (fun s8 _ => n - (intOf s8).toNat)
  case atStart => exact ⟨0, by omega, rfl, rfl, fun k hk => by omega⟩
  case round =>
    obtain ⟨i, hi, rfl, rfl, hne⟩ := hrel
    have HNE := Lib.hid hne
    clear hne
    by_cases hlt : i < n
    · obtain ⟨b, o, rfl, hc⟩ : ∃ b o, A = some ⟨b, o, none⟩ ∧ w.cell? ⟨b, o + i, none⟩ = some (.int .i64 (f i)) := by
        obtain ⟨_, _, h | ⟨b, o, h3, h4⟩⟩ := H.out
        · omega
        · exact ⟨b, o, h3, h4 i hlt⟩
      by_cases he : f i = p
      · have HI := Lib.hid (show ∃ k, k < n ∧ f k = p from ⟨i, hlt, he⟩)
        have t1 : (p == f i) = true := by rw [he]; simp
        generalize f i = fi at *
        clear he
        go_wp2_with fail
        go_ret
        exact ⟨i, rfl, ⟨fun _ => HI.out, fun _ => by omega⟩, rfl⟩
      · have HI := Lib.hid (show ∀ k, k < i + 1 → f k ≠ p from fun k hk => by
          by_cases h : k = i
          · rw [h]; exact he
          · exact HNE.out k (by omega))
        have t1 : (p == f i) = false := by simp; exact fun h => he h.symm
        generalize f i = fi at *
        clear he
        go_wp2_with fail
        go_roundw
        case rel => exact ⟨i + 1, by omega, by go_num, by first | rfl | trivial, HI.out⟩
        case measure => simp [intOf]; omega
    · obtain rfl : i = n := by omega
      go_wp2_with fail
      go_ret
      exact ⟨-1, rfl, ⟨fun h => by omega, fun ⟨k, hk, e⟩ => absurd e (HNE.out k hk)⟩, rfl⟩
theorem contains_any (A : Option Addr) (n cap : Nat) (f : Nat → Int) (p : Int) (b : Bool) (w : World) (h : IntsAt w A n cap f) (hb : b = true ↔ ∃ i, i < n ∧ f i = p) :
    Calls Tryd.prog 47 #[.slice A n cap, .int .i64 p] w fun e w' => e = .returned (.bool b) ∧ w = w' := by
  go_enter Tryd.func47, Tryd.ntmps47
  go_wp2_with fail
  refine (index_any A n cap f p _ h).mono ?_
  rintro e w' ⟨r, rfl, hr, rfl⟩
  have HR := Lib.hid hr
  clear h hr
  go_wp2_with fail
  go_ret
  refine ⟨ret_b ?_, rfl⟩
  rw [Bool.eq_iff_iff, hb, ← HR.out, decide_eq_true_iff]

/-- a kind's text, tested -/
theorem kd_test (k : Nat) (hk : k < 6) : ((⟨(Cd.kindS k).toArray⟩ : ByteArray).toList == [115, 116, 111, 114, 101]) = decide (k = 3) ∧ ((⟨(Cd.kindS k).toArray⟩ : ByteArray).toList == [98, 114, 97, 110, 99, 104]) = decide (k = 1) ∧ ((⟨(Cd.kindS k).toArray⟩ : ByteArray).toList == [116, 114, 97, 112]) = decide (k = 4) := by
  have : k = 0 ∨ k = 1 ∨ k = 2 ∨ k = 3 ∨ k = 4 ∨ k = 5 := by omega
  rcases this with rfl | rfl | rfl | rfl | rfl | rfl <;> decide +kernel
theorem kd_lt6 (op : Nat) (h : op < 54) : Cd.kd op < 6 := by
  unfold Cd.kd
  split
  · omega
  · exact kd_lt op h
set_option maxHeartbeats 1000000 in
theorem full_any (B f r : Nat) (most : Int) (pc : Nat) (iv pv : Value) (n : Nat) (ps : List Nat) (st : Nat) (m : Nat → Int) (i : Cd.Ins) (hi : i.op < 54) (w : World) (F : FAt w B f r most pc iv pv n ps st m) :
    Calls Tryd.prog 34 #[.pointer (some ⟨f, 0, none⟩), .agg (insC i)] w fun e w' => e = .returned (.bool (decide (Cd.kd i.op = 3 ∧ 8 ≤ st))) ∧ Keeps (fun _ => False) w w' := by
  obtain ⟨op, S, T, D, imm⟩ := i
  have hb := blk_alloc_new w (.cells #[.int .i64 op, .int .i64 S, .int .i64 T, .int .i64 D, .int .u32 imm] 39)
  have kb := (Keeps.refl (fun _ => False) w).alloc (.cells #[.int .i64 op, .int .i64 S, .int .i64 T, .int .i64 D, .int .u32 imm] 39)
  have F1 := F.quiet kb
  have HKB := Lib.hid kb
  unfold insC
  go_enter Tryd.func34, Tryd.ntmps34
  go_wp2_with fail
  generalize w.alloc (.cells #[.int .i64 op, .int .i64 S, .int .i64 T, .int .i64 D, .int .u32 imm] 39) = wb at *
  obtain ⟨⟨c0, c1, c2, c3, c4⟩, _⟩ := cells5 hb
  clear hb kb
  go_wp2_with fail
  refine (Kind_any op hi _).mono ?_
  rintro e w2 ⟨rfl, hk2⟩
  obtain ⟨d0, d1, d2, d3, d4, d5⟩ := (F1.quiet hk2).cells
  have HK := Lib.hid (HKB.out.trans hk2 (fun _ _ h => h))
  have HT := Lib.hid (kd_test (Cd.kd op) (kd_lt6 op hi)).1
  clear c0 c1 c2 c3 c4 hk2 F F1
  by_cases h3 : Cd.kd op = 3
  · have t1 : ((⟨(Cd.kindS (Cd.kd op)).toArray⟩ : ByteArray).toList == [115, 116, 111, 114, 101]) = true := by rw [HT.out]; simp [h3]
    generalize (⟨(Cd.kindS (Cd.kd op)).toArray⟩ : ByteArray) = ks at *
    go_wp2_with fail
    go_ret
    exact ⟨ret_b (by rw [h3]; simp; try omega), HK.out⟩
  · have t1 : ((⟨(Cd.kindS (Cd.kd op)).toArray⟩ : ByteArray).toList == [115, 116, 111, 114, 101]) = false := by rw [HT.out]; simp [h3]
    generalize (⟨(Cd.kindS (Cd.kd op)).toArray⟩ : ByteArray) = ks at *
    go_wp2_with fail
    go_ret
    exact ⟨ret_b (by simp [h3]), HK.out⟩

/-- region.at -/
theorem at_end {w w2 : World} {b0 : Nat} {i : Cd.Ins} {T : TypeId} {a b c d e : Value} (hb : w.heap[b0]? = some (.cells #[a, b, c, d, e] T (0, 0))) (hk : Keeps (fun _ => False) w w2) :
    w2.heap[b0]? = some (.cells #[a, b, c, d, e] T (0, 0)) := (hk.block b0 (Array.getElem?_eq_some_iff.1 hb).1 (fun h => h)).trans hb
set_option maxRecDepth 100000 in
set_option maxHeartbeats 2000000 in
theorem at_any (r : Nat) (v : Int) (ok : Bool) (er : Value) (a : Int) (w : World) (hv : 0 ≤ v ∧ v < 4294967296) (her : ok = true ∧ er = .nilIface ∨ ok = false ∧ ∃ t p, er = .iface t (.pointer (some p)))
    (hload : ∀ w', Keeps (fun _ => False) w w' → Calls Tryd.prog 45 #[.pointer (some ⟨r, 0, none⟩), .int .u32 a, .int .i64 4, .bool false] w' fun e w2 => e = .returned (.tuple #[.int .u32 v, er]) ∧ w' = w2) :
    Calls Tryd.prog 32 #[.pointer (some ⟨r, 0, none⟩), .int .u32 a] w fun e w' => e = .returned (.tuple #[.agg (insC (Cd.decOf v)), .bool ok]) ∧ Keeps (fun _ => False) w w' := by
  have hb0 := blk_alloc_new w (.cells #[.int .i64 0, .int .i64 0, .int .i64 0, .int .i64 0, .int .u32 0] 39)
  have k0 := (Keeps.refl (fun _ => False) w).alloc (.cells #[.int .i64 0, .int .i64 0, .int .i64 0, .int .i64 0, .int .u32 0] 39)
  have HX := Lib.hid (Nat.le_refl w.heap.size)
  go_enter Tryd.func32, Tryd.ntmps32
  go_wp2_with fail
  refine (hload _ k0).mono ?_
  rintro e w1 ⟨rfl, rfl⟩
  have HL := Lib.hid hload
  clear hload
  go_wp2_with fail
  generalize w.alloc (.cells #[.int .i64 0, .int .i64 0, .int .i64 0, .int .i64 0, .int .u32 0] 39) = w0 at *
  generalize hx : w.heap.size = x at *
  have HXE := Lib.hid hx
  clear hx
  rcases her with ⟨rfl, rfl⟩ | ⟨rfl, tt, pp, rfl⟩
  all_goals
    go_region_with (go_at_call 46; refine (decode_any v hv _).mono ?_; rintro e w2 ⟨rfl, hk2⟩; have hbx := at_end (i := ⟨0, 0, 0, 0, 0⟩) hb0 (Keeps.trans (by repeat (first | exact Keeps.refl _ _ | apply Keeps.drew)) hk2 (fun _ _ h => h)); obtain ⟨⟨c0, c1, c2, c3, c4⟩, f0, f1, f2, f3, f4⟩ := cells5 hbx; generalize hdi : Cd.decOf v = di at *; have HDI := Lib.hid hdi; clear hdi; obtain ⟨op, S, T, D, imm⟩ := di; simp only [insC]; have H5 := Lib.hid (set5 (a' := .int .i64 op) (b' := .int .i64 S) (c' := .int .i64 T) (d' := .int .i64 D) (e' := .int .u32 imm) hbx); have HK2 := Lib.hid hk2; clear hk2)
    all_goals (
      clear hbx c0 c1 c2 c3 c4 f0 f1 f2 f3 f4 hb0
      generalize (((((w2.setCell ⟨x, 0, none⟩ (.int .i64 op)).setCell ⟨x, 1, none⟩ (.int .i64 S)).setCell ⟨x, 2, none⟩ (.int .i64 T)).setCell ⟨x, 3, none⟩ (.int .i64 D)).setCell ⟨x, 4, none⟩ (.int .u32 imm)) = WW at *
      go_wp2_with fail
      obtain ⟨⟨d0, d1, d2, d3, d4⟩, _⟩ := cells5 H5.out.1
      refine bodyPost_ret (v := .tuple #[.agg #[.int .i64 op, .int .i64 S, .int .i64 T, .int .i64 D, .int .u32 imm], _]) ?_ rfl ⟨by rw [HDI.out]; rfl, ?_⟩
      · simp only [Nat.zero_add] at d1 d2 d3 d4
        simp [results, Tryd.results32, go_sem, d0, d1, d2, d3, d4]
      · exact Keeps.trans (Keeps.trans (Keeps.trans k0 ((Keeps.refl _ w0).drew) (fun _ _ h => h)) HK2.out (fun _ _ h => h)) H5.out.2 (fun k hk h => by have := HXE.out; omega))
theorem rightC4 (a : Nat) : rightC a 4 = if a % 4 ≠ 0 then 9 else if 16384 ≤ a then 10 else 0 := by
  unfold rightC
  rw [if_neg (by omega)]
  by_cases h1 : a % 4 ≠ 0
  · rw [if_pos (show (a : Int) % 4 ≠ 0 by omega), if_pos h1]
  · rw [if_neg (show ¬ (a : Int) % 4 ≠ 0 by omega), if_neg h1]
    by_cases h2 : 16384 ≤ a
    · rw [if_pos (show (16384 : Int) ≤ a by omega), if_pos h2]
    · rw [if_neg (show ¬ (16384 : Int) ≤ a by omega), if_neg h2]
theorem at_ok (r pb pw ph cp : Nat) (m : Nat → Int) (a : Nat) (w : World) (R : RamAt w r pb pw ph cp m) (h1 : a % 4 = 0) (h2 : a < 16384) :
    Calls Tryd.prog 32 #[.pointer (some ⟨r, 0, none⟩), .int .u32 a] w fun e w' => e = .returned (.tuple #[.agg (insC (insAt m a)), .bool true]) ∧ Keeps (fun _ => False) w w' := by
  have h : rightC a 4 = 0 := by rw [rightC4, if_neg (by omega), if_neg (by omega)]
  have hm : ∀ i, i < 4 → 0 ≤ m (a + i) ∧ m (a + i) < 256 := fun i hi => R.rng _ (by omega)
  have hw := wide_be (m := m) (a := a) (n := 4) (by omega) hm
  exact at_any r (be m a 4) true .nilIface a w (be_rng m a 4 hm) (.inl ⟨rfl, rfl⟩) fun w' hk => by
    have := load_ok r pb pw ph cp m a 4 false w' (R.keep hk (fun h => h) (fun h => h)) h
    rw [hw] at this
    exact this
theorem at_bad (r : Nat) (a : Nat) (w : World) (ea : Nat → Addr) (E : Errs3 w ea) (h1 : a % 4 = 0) (h2 : 16384 ≤ a) (ha : a < 4294967296) :
    Calls Tryd.prog 32 #[.pointer (some ⟨r, 0, none⟩), .int .u32 a] w fun e w' => e = .returned (.tuple #[.agg (insC (Cd.decOf 0)), .bool false]) ∧ Keeps (fun _ => False) w w' := by
  have h : rightC a 4 ≠ 0 := by rw [rightC4, if_neg (by omega), if_pos h2]; decide
  exact at_any r 0 false _ a w (by omega) (.inr ⟨rfl, _, _, rfl⟩) fun w' hk => load_bad ⟨r, 0, none⟩ a 4 false w' ea (E.keep hk ⟨fun h => h, fun h => h, fun h => h⟩) (by omega) h
end Go.Proofs.YtlbdkcnbgdmpaaaDoor

/- FormTake -/
/- The walk of former.take. -/
namespace Go.Proofs.YtlbdkcnbgdmpaaaDoor
open Go.RowKit Go.Deep
set_option linter.unusedVariables false

theorem ints_of_pages {w : World} {B : Nat} {v : Value} {ps : List Nat} (h : w.ownsRow B 3 1 v ps.length (pageL ps)) : ∃ A cap, v = .slice A ps.length cap ∧ IntsAt w A ps.length cap (fun i => ((ps.getD i 0 : Nat) : Int)) := by
  by_cases h0 : ps.length = 0
  · rcases h.2 with ⟨h1, h2⟩ | ⟨g, cap, cur, h1, h2, h3, h4, h5, _⟩
    · exact ⟨none, 0, by rw [h1, h2], by omega, by omega, .inl h0⟩
    · exact ⟨_, cap, h1, h4, by unfold maxLen at h5; omega, .inl h0⟩
  · obtain ⟨g, cap, h1, _, h3, h4, h5⟩ := owns_some h (by omega)
    refine ⟨_, cap, h1, h3, by unfold maxLen at h4; omega, .inr ⟨g, 0, rfl, fun i hi => ?_⟩⟩
    rw [Nat.zero_add]
    exact h5 i _ (by simp [pageL, hi])
theorem mem_getD (ps : List Nat) (p : Nat) : p ∈ ps ↔ ∃ i, i < ps.length ∧ ((ps.getD i 0 : Nat) : Int) = p := by
  constructor
  · intro h
    obtain ⟨i, hi, e⟩ := List.getElem_of_mem h
    exact ⟨i, hi, by simp [hi, e]⟩
  · rintro ⟨i, hi, e⟩
    have : ps[i] = p := by simp [hi] at e; omega
    rw [← this]
    exact List.getElem_mem hi

theorem FAt.addPage {w w1 : World} {B f r : Nat} {most : Int} {pc : Nat} {iv pv pv' : Value} {n : Nat} {ps : List Nat} {st : Nat} {m : Nat → Int} (F : FAt w B f r most pc iv pv n ps st m) (p : Nat)
    (hk : Keeps (fun k => pv.ownBlock = some k) w w1) (hown : w1.ownsRow B 3 1 pv' (ps.length + 1) (pageL ps ++ [.int .i64 p])) (hmv : Moved w pv pv') :
    FAt (w1.setCell ⟨f, 4, none⟩ pv') B f r most pc iv pv' n (ps ++ [p]) st m ∧ Keeps (fun k => k = f ∨ pv.ownBlock = some k) w (w1.setCell ⟨f, 4, none⟩ pv') := by
  have hbl : f < w.heap.size := (Array.getElem?_eq_some_iff.1 F.box).1
  have hb1 := (hk.block f hbl F.fp).trans F.box
  have hst := Keeps.one w1 f 4 pv'
  have htb := hmv.ne hbl F.fp
  have hkk : Keeps (fun k => k = f ∨ pv.ownBlock = some k) w (w1.setCell ⟨f, 4, none⟩ pv') := Keeps.trans (hk.mono (fun k _ h => Or.inr h)) hst (fun k _ h => Or.inl h)
  have hot : ∀ g, iv.ownBlock = some g → ¬ (g = f ∨ pv.ownBlock = some g) := by
    intro g hg h
    rcases h with rfl | h
    · exact F.fi hg
    · rcases F.ip with h0 | h0
      · rw [h0] at hg; cases hg
      · exact h0 (hg.trans h.symm)
  refine ⟨⟨?_, owns_keep F.ins hkk hot, ?_, F.low, F.fi, htb, ?_⟩, hkk⟩
  · exact set_block hb1 4 pv'
  · have := owns_keep hown hst (fun g hg e => htb (e ▸ hg))
    simpa [pageL] using this
  · cases hov : iv.ownBlock with
    | none => exact .inl rfl
    | some g =>
      refine .inr fun e => ?_
      rcases hmv with h | h
      · exact hot g hov (.inr (h ▸ e.symm))
      · have := owns_lt F.ins hov
        have := h g e.symm
        omega
theorem FAt.addIns {w w1 : World} {B f r : Nat} {most : Int} {pc : Nat} {iv iv' pv : Value} {n : Nat} {ps : List Nat} {st : Nat} {m : Nat → Int} (F : FAt w B f r most pc iv pv n ps st m)
    (hk : Keeps (fun k => iv.ownBlock = some k) w w1) (hown : w1.ownsRow B 39 5 iv' (n + 1) (insL m pc n ++ (insC (nth m pc n)).toList)) (hmv : Moved w iv iv') :
    FAt (w1.setCell ⟨f, 3, none⟩ iv') B f r most pc iv' pv (n + 1) ps st m ∧ Keeps (fun k => k = f ∨ iv.ownBlock = some k) w (w1.setCell ⟨f, 3, none⟩ iv') := by
  have hbl : f < w.heap.size := (Array.getElem?_eq_some_iff.1 F.box).1
  have hb1 := (hk.block f hbl F.fi).trans F.box
  have hst := Keeps.one w1 f 3 iv'
  have htb := hmv.ne hbl F.fi
  have hkk : Keeps (fun k => k = f ∨ iv.ownBlock = some k) w (w1.setCell ⟨f, 3, none⟩ iv') := Keeps.trans (hk.mono (fun k _ h => Or.inr h)) hst (fun k _ h => Or.inl h)
  have hot : ∀ g, pv.ownBlock = some g → ¬ (g = f ∨ iv.ownBlock = some g) := by
    intro g hg h
    rcases h with rfl | h
    · exact F.fp hg
    · rcases F.ip with h0 | h0
      · rw [h0] at h; cases h
      · exact h0 (h.trans hg.symm)
  refine ⟨⟨set_block hb1 3 iv', ?_, owns_keep F.pg hkk hot, F.low, htb, F.fp, ?_⟩, hkk⟩
  · rw [insL_succ]
    exact owns_keep hown hst (fun g hg e => htb (e ▸ hg))
  · cases hov : iv'.ownBlock with
    | none => exact .inl rfl
    | some g =>
      refine .inr fun e => ?_
      rcases hmv with h | h
      · exact hot g e.symm (.inr (h ▸ hov))
      · have := owns_lt F.pg e.symm
        have := h g hov
        omega
theorem FAt.addStore {w : World} {B f r : Nat} {most : Int} {pc : Nat} {iv pv : Value} {n : Nat} {ps : List Nat} {st : Nat} {m : Nat → Int} (F : FAt w B f r most pc iv pv n ps st m) (v : Value) (hv : v = .int .i64 ((st + 1 : Nat) : Int)) :
    FAt (w.setCell ⟨f, 5, none⟩ v) B f r most pc iv pv n ps (st + 1) m ∧ Keeps (fun k => k = f) w (w.setCell ⟨f, 5, none⟩ v) := by
  subst hv
  have hst := Keeps.one w f 5 (.int .i64 ((st + 1 : Nat) : Int))
  exact ⟨⟨set_block F.box 5 _, owns_keep F.ins hst (fun g hg e => F.fi (e ▸ hg)), owns_keep F.pg hst (fun g hg e => F.fp (e ▸ hg)), F.low, F.fi, F.fp, F.ip⟩, hst⟩

/-- what a take leaves -/
def Taken (w w' : World) (B f r : Nat) (most : Int) (pc : Nat) (iv pv : Value) (n : Nat) (ps : List Nat) (st : Nat) (m : Nat → Int) : Prop :=
  ∃ iv' pv', FAt w' B f r most pc iv' pv' n ps st m ∧ Moved w iv iv' ∧ Moved w pv pv' ∧ Keeps (fun k => k = f ∨ iv.ownBlock = some k ∨ pv.ownBlock = some k) w w'
def pageStep (pc n : Nat) (ps : List Nat) : List Nat := if (pc + 4 * n) / 256 ∈ ps then ps else ps ++ [(pc + 4 * n) / 256]

set_option maxRecDepth 100000 in
set_option maxHeartbeats 4000000 in
theorem take_any (B f r : Nat) (most : Int) (pc : Nat) (iv pv : Value) (n : Nat) (ps : List Nat) (st : Nat) (m : Nat → Int) (w : World) (F : FAt w B f r most pc iv pv n ps st m) (hp : pc + 4 * n < 4294967296) (hn : n < 24) (hps : ps.length ≤ 24) (hst : st < 1000) (st' : Nat) (hst' : Hid (st' = if kdAt m pc n = 3 then st + 1 else st)) :
    Calls Tryd.prog 36 #[.pointer (some ⟨f, 0, none⟩), .agg (insC (nth m pc n))] w fun e w' => e = .returned (.tuple #[]) ∧
      Taken w w' B f r most pc iv pv (n + 1) (pageStep pc n ps) st' m := by
  obtain ⟨ii, hii, hiz0, hiz1, hiz2⟩ := info_parts Tryd.info_ins
  obtain ⟨i0, hi, hz0, hz1, hz2⟩ := info_parts Tryd.info_int
  have hop : (nth m pc n).op < 54 := (Cd.ok_dec _).op
  have HKD := Lib.hid (show kdAt m pc n = Cd.kd (nth m pc n).op from rfl)
  generalize hnn : nth m pc n = ins at *
  have HNN := Lib.hid hnn
  clear hnn
  obtain ⟨op, S, T, D, imm⟩ := ins
  have hb := blk_alloc_new w (.cells #[.int .i64 op, .int .i64 S, .int .i64 T, .int .i64 D, .int .u32 imm] 39)
  have kb := (Keeps.refl (fun _ => False) w).alloc (.cells #[.int .i64 op, .int .i64 S, .int .i64 T, .int .i64 D, .int .u32 imm] 39)
  have hfw : f < w.heap.size := (Array.getElem?_eq_some_iff.1 F.box).1
  have hiw : ∀ g, iv.ownBlock = some g → g < w.heap.size := fun g hg => owns_lt F.ins hg
  have hpw : ∀ g, pv.ownBlock = some g → g < w.heap.size := fun g hg => owns_lt F.pg hg
  have F1 := F.quiet kb
  have HKB := Lib.hid kb
  unfold insC
  go_enter Tryd.func36, Tryd.ntmps36
  go_wp2_with fail
  generalize w.alloc (.cells #[.int .i64 op, .int .i64 S, .int .i64 T, .int .i64 D, .int .u32 imm] 39) = wb at *
  generalize hx : w.heap.size = x at *
  have HX := Lib.hid hx
  clear hx
  refine (next_any B f r most pc iv pv n ps st m _ F1 hp).mono ?_
  rintro e w2 ⟨rfl, hk2⟩
  have F2 := Lib.hid (F1.quiet hk2)
  have HB2 := Lib.hid (at_end (i := ⟨0, 0, 0, 0, 0⟩) hb hk2)
  have HK2 := Lib.hid (HKB.out.trans hk2 (fun _ _ h => h))
  clear F F1 hb kb hk2
  obtain ⟨A, cp, rfl, hI⟩ := ints_of_pages F2.out.pg
  have HI := Lib.hid hI
  obtain ⟨c0, c1, c2, c3, c4, c5⟩ := F2.out.cells
  clear hI
  go_wp2_with fail
  have hP : ((pc : Int) + 4 * n) / 256 = (((pc + 4 * n) / 256 : Nat) : Int) := by omega
  rw [hP]
  have HPS := Lib.hid (show pageStep pc n ps = if (pc + 4 * n) / 256 ∈ ps then ps else ps ++ [(pc + 4 * n) / 256] from rfl)
  generalize (pc + 4 * n) / 256 = P at *
  clear hP
  refine (contains_any A ps.length cp _ _ (decide (P ∈ ps)) _ HI.out (by rw [decide_eq_true_iff]; exact mem_getD ps P)).mono ?_
  rintro e w' ⟨rfl, rfl⟩
  have HB := Lib.hid (show B ≤ w2.heap.size by have := F2.out.low; have := F2.out.box; have := (Array.getElem?_eq_some_iff.1 this).1; omega)
  have hmx : ps.length + 1 ≤ maxLen := by unfold maxLen; omega
  have hmx2 : n + 1 ≤ maxLen := by unfold maxLen; omega
  have HC4 := Lib.hid c4
  by_cases hmem : P ∈ ps
  · rw [decide_eq_true hmem]
    have F3 : Hid (FAt w2 B f r most pc iv (.slice A ps.length cp) n (pageStep pc n ps) st m) := Lib.hid (by rw [HPS.out, if_pos hmem]; exact F2.out)
    have HM3 : Hid (Moved w (.slice A ps.length cp) (.slice A ps.length cp)) := Lib.hid (.inl rfl)
    have HB3 := HB2
    have HK3 : Hid (Keeps (fun k => k = f ∨ (Value.slice A ps.length cp).ownBlock = some k) w w2) := Lib.hid (HK2.out.mono (fun _ _ h => h.elim))
    have HCN := Lib.hid (fun (j : Nat) (u : Value) (h : [Value.int .i64 op, .int .i64 S, .int .i64 T, .int .i64 D, .int .u32 imm][j]? = some u) => cells_new w2.drew [Value.int .i64 op, .int .i64 S, .int .i64 T, .int .i64 D, .int .u32 imm] 39 j u h)
    obtain ⟨⟨b0, b1, b2, b3, b4⟩, _⟩ := cells5 HB3.out
    clear hmem F2 HB2 HK2
    go_wp2_with fail
    have hcn := HCN.out
    have hcl := cell_alloc c3 (.cells #[.int .i64 op, .int .i64 S, .int .i64 T, .int .i64 D, .int .u32 imm] 39)
    go_region_law (refine step_append_mine rfl (.tmp 34) (.tmp 36) 27 rfl B 39 ii _ 5 40 Tryd.underlying27 hii hiz0 hiz1 hiz2 rfl (by decide) iv n (insL m pc n) (by simp [Act.eval]) (F3.out.ins.alloc _) ⟨w2.heap.size, 0, none⟩ 1 1 [.int .i64 op, .int .i64 S, .int .i64 T, .int .i64 D, .int .u32 imm] (by simp [Act.eval]) rfl hcn (by simp [Value.oneCell']) hmx2 (by omega) (Nat.le_trans HB.out (Keeps.size (((Keeps.refl (fun _ => False) w2).alloc _).drew))) ?_; intro iv' w4 hown hgr hmv; obtain ⟨A4, cap4, rfl⟩ := owns_slice hown; have hk4 : Keeps (fun k => iv.ownBlock = some k) w2 w4 := (((Keeps.refl _ w2).alloc _).drew).grown hgr (fun k hk _ => hk); have hb4 := (hk4.block f (Array.getElem?_eq_some_iff.1 F3.out.box).1 (fun h => F3.out.fi h)).trans F3.out.box; have hc4 : w4.cell? ⟨f, 3, none⟩ = some iv := (by simp [World.cell?, hb4]); have hf4 := frozen_of_block hb4 3)
    all_goals (
      clear hcn hcl b0 b1 b2 b3 b4 c0 c1 c2 c3 c4 c5 hb4 hc4 hf4
      have hown' : w4.ownsRow B 39 5 (.slice A4 (n + 1) cap4) (n + 1) (insL m pc n ++ (insC (nth m pc n)).toList) := by rw [HNN.out]; exact hown
      have hsz3 : w.heap.size ≤ w2.heap.size := HK3.out.size
      have hmv4 : Moved w2 iv (.slice A4 (n + 1) cap4) := hmv.of_le (Keeps.size (((Keeps.refl (fun _ => False) w2).alloc _).drew))
      obtain ⟨F5, K5⟩ := F3.out.addIns hk4 hown' hmv4
      clear hown hown' hgr hmv hk4
      generalize w4.setCell ⟨f, 3, none⟩ (.slice A4 (n + 1) cap4) = w5 at *
      have HB5 := Lib.hid ((K5.block x (Array.getElem?_eq_some_iff.1 HB3.out).1 (fun h => h.elim (fun h => by omega) (fun h => by have := hiw x h; omega))).trans HB3.out)
      have HM4 := Lib.hid (hmv4.of_le hsz3)
      have HK5 : Hid (Keeps (fun k => k = f ∨ iv.ownBlock = some k ∨ (Value.slice A ps.length cp).ownBlock = some k) w w5) := Lib.hid (Keeps.trans (HK3.out.mono (fun k _ h => h.elim .inl (fun h => .inr (.inr h)))) K5 (fun k _ h => h.elim .inl (fun h => .inr (.inl h))))
      have HF5 := Lib.hid F5
      obtain ⟨⟨b0, b1, b2, b3, b4⟩, _⟩ := cells5 HB5.out
      clear F5 K5 hmv4
      go_wp2_with fail
      refine (Kind_any op hop _).mono ?_
      rintro e w6 ⟨rfl, hk6⟩
      have HF6 := Lib.hid (HF5.out.quiet hk6)
      have HK6 := Lib.hid (HK5.out.trans hk6 (fun _ _ h => h.elim))
      obtain ⟨e0, e1, e2, e3, e4, e5⟩ := HF6.out.cells
      have hf6 := frozen_of_block HF6.out.box 5
      have HTS := Lib.hid (kd_test (Cd.kd op) (kd_lt6 op hop)).1
      clear hk6 b0 b1 b2 b3 b4
      by_cases h3 : Cd.kd op = 3
      · have t1 : ((⟨(Cd.kindS (Cd.kd op)).toArray⟩ : ByteArray).toList == [115, 116, 111, 114, 101]) = true := by rw [HTS.out]; simp [h3]
        have HIF := Lib.hid (show st' = st + 1 by rw [hst'.out, HKD.out, if_pos h3])
        generalize (⟨(Cd.kindS (Cd.kd op)).toArray⟩ : ByteArray) = ks at *
        clear h3
        go_wp2_with fail
        refine bodyPost_end (results_none rfl _ _ _) rfl ⟨rfl, ?_⟩
        obtain ⟨F7, K7⟩ := HF6.out.addStore (.int .i64 ((st : Int) + 1)) (by push_cast; rfl)
        rw [HIF.out]
        exact ⟨_, _, F7, HM4.out, HM3.out, HK6.out.trans K7 (fun k _ h => .inl h)⟩
      · have t1 : ((⟨(Cd.kindS (Cd.kd op)).toArray⟩ : ByteArray).toList == [115, 116, 111, 114, 101]) = false := by rw [HTS.out]; simp [h3]
        have HIF := Lib.hid (show st' = st by rw [hst'.out, HKD.out, if_neg h3])
        generalize (⟨(Cd.kindS (Cd.kd op)).toArray⟩ : ByteArray) = ks at *
        clear h3
        go_wp2_with fail
        refine bodyPost_end (results_none rfl _ _ _) rfl ⟨rfl, ?_⟩
        rw [HIF.out]
        exact ⟨_, _, HF6.out, HM4.out, HM3.out, HK6.out⟩)
  · rw [decide_eq_false hmem]
    have hcnp : ∀ j u, [Value.int .i64 (P : Int)][j]? = some u → (w2.alloc (.cells #[.int .i64 (P : Int)] 3)).cell? ((⟨w2.heap.size, 0, none⟩ : Addr).add j) = some u := fun j u h => cells_new w2 _ _ j u h
    go_wp2_with (at_builtin; refine wpList_append_mine rfl (.tmp 22) (.tmp 24) 28 rfl B 3 i0 _ 1 8 Tryd.underlying28 hi hz0 hz1 hz2 rfl (by decide) (.slice A ps.length cp) ps.length (pageL ps) rfl (F2.out.pg.alloc _) ⟨w2.heap.size, 0, none⟩ 1 1 [.int .i64 (P : Int)] rfl rfl hcnp (by simp [Value.oneCell']) hmx (by omega) (Nat.le_trans HB.out (Keeps.size ((Keeps.refl (fun _ => False) w2).alloc _))) ?_; intro pv' w3' hown hgr hmv; obtain ⟨A', cap', rfl⟩ := owns_slice hown; have hk3 : Keeps (fun k => (Value.slice A ps.length cp).ownBlock = some k) w2 w3' := ((Keeps.refl _ w2).alloc _).grown hgr (fun k hk _ => hk); have hb3 := (hk3.block f (Array.getElem?_eq_some_iff.1 F2.out.box).1 (fun h => F2.out.fp h)).trans F2.out.box; have hc3 : w3'.cell? ⟨f, 4, none⟩ = some (.slice A ps.length cp) := (by simp [World.cell?, hb3]); have hf3 := frozen_of_block hb3 4)
    have hmv3 : Moved w2 (.slice A ps.length cp) (.slice A' (ps.length + 1) cap') := hmv.of_le (Keeps.size ((Keeps.refl (fun _ => False) w2).alloc _))
    obtain ⟨F3', K3⟩ := F2.out.addPage P hk3 hown hmv3
    have HKW := Lib.hid (show Keeps (fun k => k = f ∨ (Value.slice A ps.length cp).ownBlock = some k) w w2 from HK2.out.mono (fun _ _ h => h.elim))
    have HB3 := Lib.hid ((K3.block x (Array.getElem?_eq_some_iff.1 HB2.out).1 (fun h => h.elim (fun h => by omega) (fun h => by have := hpw x h; omega))).trans HB2.out)
    have HK3 := Lib.hid (HKW.out.trans K3 (fun _ _ h => h))
    have HM3 := Lib.hid (hmv3.of_le (w := w) HK2.out.size)
    clear hc3 hf3 hb3 hk3 hown hgr hmv hmv3 hcnp c0 c1 c2 c3 c4 c5 K3
    generalize w3'.setCell ⟨f, 4, none⟩ (.slice A' (ps.length + 1) cap') = w3 at *
    have F3 : Hid (FAt w3 B f r most pc iv (.slice A' (ps.length + 1) cap') n (pageStep pc n ps) st m) := Lib.hid (by rw [HPS.out, if_neg hmem]; exact F3')
    have HBW := Lib.hid (show B ≤ w3.heap.size by have := F3.out.low; have := F3.out.box; have := (Array.getElem?_eq_some_iff.1 this).1; omega)
    have HCN := Lib.hid (fun (j : Nat) (u : Value) (h : [Value.int .i64 op, .int .i64 S, .int .i64 T, .int .i64 D, .int .u32 imm][j]? = some u) => cells_new w3.drew [Value.int .i64 op, .int .i64 S, .int .i64 T, .int .i64 D, .int .u32 imm] 39 j u h)
    obtain ⟨⟨b0, b1, b2, b3, b4⟩, _⟩ := cells5 HB3.out
    obtain ⟨c0, c1, c2, c3, c4, c5⟩ := F3.out.cells
    clear hmem F2 HB2 HK2 F3' HC4
    go_wp2_with fail
    have hcn := HCN.out
    have hcl := cell_alloc c3 (.cells #[.int .i64 op, .int .i64 S, .int .i64 T, .int .i64 D, .int .u32 imm] 39)
    go_region_law (refine step_append_mine rfl (.tmp 34) (.tmp 36) 27 rfl B 39 ii _ 5 40 Tryd.underlying27 hii hiz0 hiz1 hiz2 rfl (by decide) iv n (insL m pc n) (by simp [Act.eval]) (F3.out.ins.alloc _) ⟨w3.heap.size, 0, none⟩ 1 1 [.int .i64 op, .int .i64 S, .int .i64 T, .int .i64 D, .int .u32 imm] (by simp [Act.eval]) rfl hcn (by simp [Value.oneCell']) hmx2 (by omega) (Nat.le_trans HBW.out (Keeps.size (((Keeps.refl (fun _ => False) w3).alloc _).drew))) ?_; intro iv' w4 hown hgr hmv; obtain ⟨A4, cap4, rfl⟩ := owns_slice hown; have hk4 : Keeps (fun k => iv.ownBlock = some k) w3 w4 := (((Keeps.refl _ w3).alloc _).drew).grown hgr (fun k hk _ => hk); have hb4 := (hk4.block f (Array.getElem?_eq_some_iff.1 F3.out.box).1 (fun h => F3.out.fi h)).trans F3.out.box; have hc4 : w4.cell? ⟨f, 3, none⟩ = some iv := (by simp [World.cell?, hb4]); have hf4 := frozen_of_block hb4 3)
    all_goals (
      clear hcn hcl b0 b1 b2 b3 b4 c0 c1 c2 c3 c4 c5 hb4 hc4 hf4
      have hown' : w4.ownsRow B 39 5 (.slice A4 (n + 1) cap4) (n + 1) (insL m pc n ++ (insC (nth m pc n)).toList) := by rw [HNN.out]; exact hown
      have hsz3 : w.heap.size ≤ w3.heap.size := HK3.out.size
      have hmv4 : Moved w3 iv (.slice A4 (n + 1) cap4) := hmv.of_le (Keeps.size (((Keeps.refl (fun _ => False) w3).alloc _).drew))
      obtain ⟨F5, K5⟩ := F3.out.addIns hk4 hown' hmv4
      clear hown hown' hgr hmv hk4
      generalize w4.setCell ⟨f, 3, none⟩ (.slice A4 (n + 1) cap4) = w5 at *
      have HB5 := Lib.hid ((K5.block x (Array.getElem?_eq_some_iff.1 HB3.out).1 (fun h => h.elim (fun h => by omega) (fun h => by have := hiw x h; omega))).trans HB3.out)
      have HM4 := Lib.hid (hmv4.of_le hsz3)
      have HK5 : Hid (Keeps (fun k => k = f ∨ iv.ownBlock = some k ∨ (Value.slice A ps.length cp).ownBlock = some k) w w5) := Lib.hid (Keeps.trans (HK3.out.mono (fun k _ h => h.elim .inl (fun h => .inr (.inr h)))) K5 (fun k _ h => h.elim .inl (fun h => .inr (.inl h))))
      have HF5 := Lib.hid F5
      obtain ⟨⟨b0, b1, b2, b3, b4⟩, _⟩ := cells5 HB5.out
      clear F5 K5 hmv4
      go_wp2_with fail
      refine (Kind_any op hop _).mono ?_
      rintro e w6 ⟨rfl, hk6⟩
      have HF6 := Lib.hid (HF5.out.quiet hk6)
      have HK6 := Lib.hid (HK5.out.trans hk6 (fun _ _ h => h.elim))
      obtain ⟨e0, e1, e2, e3, e4, e5⟩ := HF6.out.cells
      have hf6 := frozen_of_block HF6.out.box 5
      have HTS := Lib.hid (kd_test (Cd.kd op) (kd_lt6 op hop)).1
      clear hk6 b0 b1 b2 b3 b4
      by_cases h3 : Cd.kd op = 3
      · have t1 : ((⟨(Cd.kindS (Cd.kd op)).toArray⟩ : ByteArray).toList == [115, 116, 111, 114, 101]) = true := by rw [HTS.out]; simp [h3]
        have HIF := Lib.hid (show st' = st + 1 by rw [hst'.out, HKD.out, if_pos h3])
        generalize (⟨(Cd.kindS (Cd.kd op)).toArray⟩ : ByteArray) = ks at *
        clear h3
        go_wp2_with fail
        refine bodyPost_end (results_none rfl _ _ _) rfl ⟨rfl, ?_⟩
        obtain ⟨F7, K7⟩ := HF6.out.addStore (.int .i64 ((st : Int) + 1)) (by push_cast; rfl)
        rw [HIF.out]
        exact ⟨_, _, F7, HM4.out, HM3.out, HK6.out.trans K7 (fun k _ h => .inl h)⟩
      · have t1 : ((⟨(Cd.kindS (Cd.kd op)).toArray⟩ : ByteArray).toList == [115, 116, 111, 114, 101]) = false := by rw [HTS.out]; simp [h3]
        have HIF := Lib.hid (show st' = st by rw [hst'.out, HKD.out, if_neg h3])
        generalize (⟨(Cd.kindS (Cd.kd op)).toArray⟩ : ByteArray) = ks at *
        clear h3
        go_wp2_with fail
        refine bodyPost_end (results_none rfl _ _ _) rfl ⟨rfl, ?_⟩
        rw [HIF.out]
        exact ⟨_, _, HF6.out, HM4.out, HM3.out, HK6.out⟩)
end Go.Proofs.YtlbdkcnbgdmpaaaDoor
