
/- Memory of the call's own, said block by block: what has turned between two worlds, rows of cells, a slice of words that is read. No program in sight. -/
import Derived.WalkKit
import Derived.Deep.OwnRows
import Derived.Deep.QuietTactic
import Derived.Laws.CopyOwn
namespace Go.Proofs.YtlmnmncdoiealaaGreatDoor
open Go.RowKit Go.Deep

/-- BLOCK b's FIRST n CELLS, OF TYPE t, HOLD f; none is frozen; it may be longer. -/
def RowTo (w : World) (b : Nat) (t : TypeId) (n : Nat) (f : Nat → Value) : Prop :=
  ∃ c : Array Value, w.heap[b]? = some (.cells c t (0, 0)) ∧ n ≤ c.size ∧ ∀ i, i < n → c[i]? = some (f i)
namespace RowTo
variable {w : World} {b : Nat} {t : TypeId} {n : Nat} {f g : Nat → Value}
theorem of_row (h : w.rowIs b t n f) : RowTo w b t n f := by
  obtain ⟨c, h1, h2, h3⟩ := h
  exact ⟨c, h1, by omega, h3⟩
theorem cell (h : RowTo w b t n f) {i : Nat} (hi : i < n) : w.cell? ⟨b, i, none⟩ = some (f i) := by
  obtain ⟨c, hb, _, hc⟩ := h
  simp [World.cell?, hb, hc i hi]
theorem frozen (h : RowTo w b t n f) (i : Nat) : w.frozen? ⟨b, i, none⟩ = false := by
  obtain ⟨c, hb, _, _⟩ := h
  simp [World.frozen?, hb]
theorem lt (h : RowTo w b t n f) : b < w.heap.size := by
  obtain ⟨c, hb, _, _⟩ := h
  exact (Array.getElem?_eq_some_iff.1 hb).1
theorem congr (h : RowTo w b t n f) (e : ∀ i, i < n → f i = g i) : RowTo w b t n g := by
  obtain ⟨c, hb, hn, hc⟩ := h
  exact ⟨c, hb, hn, fun i hi => by rw [hc i hi, e i hi]⟩
theorem of_block {w' : World} (h : RowTo w b t n f) (e : w'.heap[b]? = w.heap[b]?) : RowTo w' b t n f := by
  obtain ⟨c, hb, hn, hc⟩ := h
  exact ⟨c, e.trans hb, hn, hc⟩
theorem set (h : RowTo w b t n f) (i : Nat) (v : Value) : RowTo (w.setCell ⟨b, i, none⟩ v) b t n (fun j => if j = i then v else f j) := by
  obtain ⟨c, hb, hn, hc⟩ := h
  refine ⟨c.setIfInBounds i v, ?_, by simpa using hn, fun j hj => ?_⟩
  · simp [World.setCell, Array.getElem?_modify, hb]
  · rw [Array.getElem?_setIfInBounds]
    by_cases e : j = i
    · subst e
      simp [show j < c.size by omega]
    · rw [if_neg (fun h => e h.symm)]
      show c[j]? = some (if j = i then v else f j)
      rw [if_neg e]
      exact hc j hj
theorem alloc (h : RowTo w b t n f) (o : Obj) : RowTo (w.alloc o) b t n f := h.of_block (Below.heap_alloc _ _ _ h.lt)
theorem drew (h : RowTo w b t n f) : RowTo w.drew b t n f := h
/-- what the call owns by appending -/
theorem of_owns {base cap : Nat} {xs : List Value} {gb : Nat} (h : w.ownsRow base t 1 (.slice (some ⟨gb, 0, none⟩) n cap) n xs) (hx : ∀ i, i < n → xs[i]? = some (f i)) : RowTo w gb t n f := by
  obtain ⟨hl, ⟨h0, _⟩ | ⟨g, cap', cur, hv, _, hh, hn, _, hsz, htk⟩⟩ := h
  · cases h0
  · cases hv
    refine ⟨cur, hh, by omega, fun i hi => ?_⟩
    have := hx i hi
    rw [← htk, List.getElem?_take_of_lt (by omega)] at this
    simpa using this
end RowTo

/-- BETWEEN w AND w' NO BLOCK OF w's HAS TURNED BUT THOSE OF S; the streams are as they were. -/
structure Keeps (S : Nat → Prop) (w w' : World) : Prop where
  os : w'.os = w.os
  tape : w'.tape = w.tape
  output : w'.output = w.output
  size : w.heap.size ≤ w'.heap.size
  block : ∀ k, k < w.heap.size → ¬ S k → w'.heap[k]? = w.heap[k]?

namespace Keeps
variable {S T : Nat → Prop} {w w' w'' : World}
theorem refl (S : Nat → Prop) (w : World) : Keeps S w w := ⟨rfl, rfl, rfl, Nat.le_refl _, fun _ _ _ => rfl⟩
theorem trans (h : Keeps S w w') (k : Keeps T w' w'') (hT : ∀ b, b < w.heap.size → T b → S b) : Keeps S w w'' :=
  ⟨k.os.trans h.os, k.tape.trans h.tape, k.output.trans h.output, Nat.le_trans h.size k.size,
    fun b hb hs => (k.block b (Nat.lt_of_lt_of_le hb h.size) (fun t => hs (hT b hb t))).trans (h.block b hb hs)⟩
theorem mono (h : Keeps S w w') (hT : ∀ b, b < w.heap.size → S b → T b) : Keeps T w w' := ⟨h.os, h.tape, h.output, h.size, fun b hb hn => h.block b hb (fun s => hn (hT b hb s))⟩
theorem drew (h : Keeps S w w') : Keeps S w w'.drew := ⟨h.os, h.tape, h.output, h.size, h.block⟩
theorem drewN (h : Keeps S w w') (n : Nat) : Keeps S w (w'.drewN n) := ⟨h.os, h.tape, h.output, h.size, h.block⟩
theorem alloc (h : Keeps S w w') (o : Obj) : Keeps S w (w'.alloc o) :=
  ⟨h.os, h.tape, h.output, Nat.le_trans h.size (by simp), fun b hb hs => (Below.heap_alloc _ _ _ (Nat.lt_of_lt_of_le hb h.size)).trans (h.block b hb hs)⟩
theorem setCell (h : Keeps S w w') {a : Addr} (ha : a.block < w.heap.size → S a.block) (v : Value) : Keeps S w (w'.setCell a v) :=
  ⟨h.os, h.tape, h.output, by simpa [World.setCell] using h.size, fun b hb hs => (Below.heap_setCell _ _ _ _ (fun e => by subst e; exact hs (ha hb))).trans (h.block b hb hs)⟩
theorem setRow (h : Keeps S w w') {g : Nat} (hg : g < w.heap.size → S g) (cs : Array Value) : Keeps S w (w'.setRow g cs) :=
  ⟨h.os, h.tape, h.output, by simpa [World.setRow] using h.size, fun b hb hs => (setRow_other w' g b cs (fun e => by subst e; exact hs (hg hb))).trans (h.block b hb hs)⟩
theorem grown (h : Keeps S w w') {row : Option Nat} (hg : w'.grownBy w'' row) (hr : ∀ k, row = some k → k < w.heap.size → S k) : Keeps S w w'' :=
  ⟨hg.os.trans h.os, hg.tape.trans h.tape, hg.output.trans h.output, Nat.le_trans h.size hg.size,
    fun b hb hs => (hg.block b (Nat.lt_of_lt_of_le hb h.size) (fun e => hs (hr b e.symm hb))).trans (h.block b hb hs)⟩
theorem below (h : Keeps S w w') {B : Nat} (hB : B ≤ w.heap.size) (hS : ∀ b, b < w.heap.size → S b → B ≤ b) : Below B w w' :=
  ⟨h.os, h.tape, h.output, h.size, fun k hk => h.block k (by omega) (fun s => by have := hS k (by omega) s; omega)⟩
theorem cell (h : Keeps S w w') {b : Nat} (o : Nat) (hb : b < w.heap.size) (hs : ¬ S b) : w'.cell? ⟨b, o, none⟩ = w.cell? ⟨b, o, none⟩ :=
  World.cell?_of_block (w := w) (a := ⟨b, o, none⟩) (h.block b hb hs)
theorem cell' (h : Keeps S w w') {b o : Nat} {v : Value} (hc : w.cell? ⟨b, o, none⟩ = some v) (hs : ¬ S b) : w'.cell? ⟨b, o, none⟩ = some v :=
  (h.cell o (World.block_lt_of_cell? w ⟨b, o, none⟩ hc) hs).trans hc
theorem row (h : Keeps S w w') {b : Nat} {t : TypeId} {n : Nat} {f : Nat → Value} (hr : w.rowIs b t n f) (hs : ¬ S b) : w'.rowIs b t n f := hr.of_block (h.block b hr.lt hs)
theorem rowTo (h : Keeps S w w') {b : Nat} {t : TypeId} {n : Nat} {f : Nat → Value} (hr : RowTo w b t n f) (hs : ¬ S b) : RowTo w' b t n f := hr.of_block (h.block b hr.lt hs)
theorem map (h : Keeps S w w') {b : Nat} {es : Array MapEntry} {c : Nat} (hm : w.heap[b]? = some (.map es c)) (hs : ¬ S b) : w'.heap[b]? = some (.map es c) :=
  (h.block b (Array.getElem?_eq_some_iff.1 hm).1 hs).trans hm
end Keeps

theorem Keeps.of_same {w w' : World} (h : w = w') (S : Nat → Prop) : Keeps S w w' := h ▸ Keeps.refl S w
theorem Keeps.of_drewN (S : Nat → Prop) (w : World) (n : Nat) : Keeps S w (w.drewN n) := (Keeps.refl S w).drewN n

/-- A row whose cells are overwritten from a place on. -/
theorem rowIs_setRow {w : World} {b : Nat} {t : TypeId} {n : Nat} {f : Nat → Value} (h : w.rowIs b t n f) (cs : Array Value) (hn : cs.size = n) (g : Nat → Value) (hg : ∀ i, i < n → cs[i]? = some (g i)) : (w.setRow b cs).rowIs b t n g := by
  obtain ⟨c, hb, _, _⟩ := h
  exact ⟨cs, setRow_heap w b c cs t _ hb, hn, hg⟩

theorem cell_alloc {w : World} {b o : Nat} {v : Value} (h : w.cell? ⟨b, o, none⟩ = some v) (x : Obj) : (w.alloc x).cell? ⟨b, o, none⟩ = some v :=
  ((Keeps.refl (fun _ => False) w).alloc x).cell' h (fun f => f)

/-- a slice of n cells that reads as f: empty, without room, or somewhere -/
def Reads (w : World) (A : Option Addr) (n cap : Nat) (f : Nat → Value) : Prop :=
  n ≤ cap ∧ (cap = 0 ∨ ∃ b o, A = some ⟨b, o, none⟩ ∧ b < w.heap.size ∧ ∀ i, i < n → w.cell? ⟨b, o + i, none⟩ = some (f i))
theorem Reads.keep {S : Nat → Prop} {w w' : World} {A : Option Addr} {n cap : Nat} {f : Nat → Value} (h : Reads w A n cap f) (k : Keeps S w w') (hS : ∀ b, b < w.heap.size → A.map (·.block) = some b → ¬ S b) : Reads w' A n cap f := by
  obtain ⟨h1, h2 | ⟨b, o, rfl, hb, hc⟩⟩ := h
  · exact ⟨h1, .inl h2⟩
  · exact ⟨h1, .inr ⟨b, o, rfl, Nat.lt_of_lt_of_le hb k.size, fun i hi => k.cell' (hc i hi) (hS b hb rfl)⟩⟩

/-- copy INTO A ROW OF THE CALL's OWN: cells k of the row, from off on, hold what the source's cells held; nothing else has turned. -/
theorem wpList_copy_rowIs {P : Program} {w : World} {ops : Array Oper} {rest : List Oper} {o : Oper} {a : Act} {Q : Exit → Act → World → Prop} (hgd : o.guard = none) (d s : Operand) (dT sT : TypeId)
    (ho : o.op = .call { callee := .builtin .copy, args := #[d, s], argTypes := #[dT, sT] }) (elem : TypeId) (hu : P.underlying dT = some (.slice elem)) (hsz : (P.info? elem).map (·.size) = some 1)
    (g off dLen dCap : Nat) (ad : Addr) (sLen sCap : Nat) (hd : a.eval d = .slice (some ⟨g, off, none⟩) dLen dCap) (hs : a.eval s = .slice (some ad) sLen sCap)
    (t : TypeId) (n : Nat) (f : Nat → Value) (hg : w.rowIs g t n f) (k : Nat) (c : Nat → Value) (hk : k = Nat.min sLen dLen)
    (hsrc : ∀ j, j < k → w.cell? (ad.add j) = some (c j)) (hfit : off + k ≤ n) (h1 : ∀ j, j < k → (c j).oneCell' = true)
    (h : ∀ w', w'.rowIs g t n (fun j => if off ≤ j ∧ j < off + k then c (j - off) else f j) → Keeps (· = g) w w' → wpList P ops Q rest (a.put o.dst (goInt k)) w') : wpList P ops Q (o :: rest) a w := by
  obtain ⟨cur, hb, hn, hc⟩ := hg
  let cs : List Value := (List.range k).map c
  have hl : cs.length = k := by simp [cs]
  have hat : ∀ j v, cs[j]? = some v → j < k ∧ v = c j := by
    intro j v hv
    have hj : j < k := by rw [← hl]; exact (List.getElem?_eq_some_iff.1 hv).1
    refine ⟨hj, ?_⟩
    simp [cs, List.getElem?_range hj] at hv
    exact hv.symm
  refine wpList_copy_own hgd d s dT sT ho elem hu hsz g off dLen dCap ad sLen sCap hd hs cur t hb cs (by rw [hl]; exact hk)
    (fun j v hv => by obtain ⟨hj, rfl⟩ := hat j v hv; exact hsrc j hj) (by rw [hl, hn]; exact hfit) (fun v hv => by
      obtain ⟨j, hj⟩ := List.getElem?_of_mem hv
      obtain ⟨hj', rfl⟩ := hat j v hj; exact h1 j hj') ?_
  rw [hl]
  refine h _ ?_ ((Keeps.refl (· = g) w).setRow (fun _ => rfl) _)
  have hcur : cur.toList.length = n := by simpa using hn
  refine ⟨_, setRow_heap w g cur _ t _ hb, by simp [hl]; omega, fun i hi => ?_⟩
  rw [List.getElem?_toArray]
  have hti : (cur.toList.take off).length = off := by rw [List.length_take]; omega
  by_cases h1 : i < off
  · rw [List.getElem?_append_left (by rw [hti]; exact h1), List.getElem?_take_of_lt h1]
    simp only []
    rw [if_neg (by omega)]
    simpa using hc i hi
  · rw [List.getElem?_append_right (by rw [hti]; omega), hti]
    by_cases h2 : i < off + k
    · rw [List.getElem?_append_left (by rw [hl]; omega)]
      simp only []
      rw [if_pos ⟨by omega, h2⟩]
      simp [cs, List.getElem?_range (show i - off < k by omega)]
    · rw [List.getElem?_append_right (by rw [hl]; omega), hl, List.getElem?_drop]
      simp only []
      rw [if_neg (by omega), show off + k + (i - off - k) = i by omega]
      simpa using hc i hi

theorem cells_new (w : World) (cs : List Value) (T : TypeId) (j : Nat) (u : Value) (h : cs[j]? = some u) : (w.alloc (.cells cs.toArray T)).cell? ((⟨w.heap.size, 0, none⟩ : Addr).add j) = some u := by
  rw [Addr.add_lit, Nat.zero_add]
  have hb := blk_alloc_new w (.cells cs.toArray T)
  unfold World.cell?
  rw [hb]
  simpa using h
theorem frozen_of_block {w : World} {b : Nat} {cs : Array Value} {T : TypeId} (h : w.heap[b]? = some (.cells cs T (0, 0))) (o : Nat) : w.frozen? ⟨b, o, none⟩ = false := by
  simp [World.frozen?, h]
theorem set_block {w : World} {b : Nat} {cs : Array Value} {T : TypeId} {fz : Nat × Nat} (h : w.heap[b]? = some (.cells cs T fz)) (o : Nat) (v : Value) : (w.setCell ⟨b, o, none⟩ v).heap[b]? = some (.cells (cs.setIfInBounds o v) T fz) := by
  simp [World.setCell, Array.getElem?_modify, h]
theorem owns_slice {w : World} {base : Nat} {e : TypeId} {size : Nat} {v : Value} {n : Nat} {xs : List Value} (h : w.ownsRow base e size v n xs) : ∃ A cap, v = .slice A n cap := by
  rcases h.2 with ⟨h1, h2⟩ | ⟨g, cap, cur, h1, _⟩
  · exact ⟨none, 0, by rw [h1, h2]⟩
  · exact ⟨_, _, h1⟩
theorem owns_keep {w w' : World} {S : Nat → Prop} {base : Nat} {e : TypeId} {size : Nat} {v : Value} {n : Nat} {xs : List Value} (h : w.ownsRow base e size v n xs) (k : Keeps S w w') (hs : ∀ g, v.ownBlock = some g → ¬ S g) : w'.ownsRow base e size v n xs := by
  refine ⟨h.1, ?_⟩
  rcases h.2 with h | ⟨g, cap, cur, e1, e2, e3, e4⟩
  · exact .inl h
  · exact .inr ⟨g, cap, cur, e1, e2, (k.block g (Array.getElem?_eq_some_iff.1 e3).1 (hs g (by rw [e1]; rfl))).trans e3, e4⟩
/-- a cell that is set changes no other block -/
theorem Keeps.one (w : World) (b o : Nat) (v : Value) : Keeps (· = b) w (w.setCell ⟨b, o, none⟩ v) := Keeps.setCell (S := (· = b)) (Keeps.refl _ w) (a := ⟨b, o, none⟩) (fun _ => rfl) v
theorem cells5 {w : World} {x : Nat} {T : TypeId} {a b c d e : Value} (h : w.heap[x]? = some (.cells #[a, b, c, d, e] T (0, 0))) :
    (w.cell? ⟨x, 0, none⟩ = some a ∧ w.cell? ⟨x, 0 + 1, none⟩ = some b ∧ w.cell? ⟨x, 0 + 2, none⟩ = some c ∧ w.cell? ⟨x, 0 + 3, none⟩ = some d ∧ w.cell? ⟨x, 0 + 4, none⟩ = some e) ∧
    (w.frozen? ⟨x, 0, none⟩ = false ∧ w.frozen? ⟨x, 0 + 1, none⟩ = false ∧ w.frozen? ⟨x, 0 + 2, none⟩ = false ∧ w.frozen? ⟨x, 0 + 3, none⟩ = false ∧ w.frozen? ⟨x, 0 + 4, none⟩ = false) := by
  refine ⟨⟨?_, ?_, ?_, ?_, ?_⟩, ?_, ?_, ?_, ?_, ?_⟩ <;> simp [World.cell?, World.frozen?, h]
/-- a struct of five cells is stored -/
theorem set5 {w : World} {x : Nat} {T : TypeId} {a b c d e a' b' c' d' e' : Value} (h : w.heap[x]? = some (.cells #[a, b, c, d, e] T (0, 0))) :
    (((((w.setCell ⟨x, 0, none⟩ a').setCell ⟨x, 1, none⟩ b').setCell ⟨x, 2, none⟩ c').setCell ⟨x, 3, none⟩ d').setCell ⟨x, 4, none⟩ e').heap[x]? = some (.cells #[a', b', c', d', e'] T (0, 0)) ∧
      Keeps (· = x) w (((((w.setCell ⟨x, 0, none⟩ a').setCell ⟨x, 1, none⟩ b').setCell ⟨x, 2, none⟩ c').setCell ⟨x, 3, none⟩ d').setCell ⟨x, 4, none⟩ e') := by
  refine ⟨?_, Keeps.trans (Keeps.trans (Keeps.trans (Keeps.trans (Keeps.one _ _ _ _) (Keeps.one _ _ _ _) (fun _ _ h => h)) (Keeps.one _ _ _ _) (fun _ _ h => h)) (Keeps.one _ _ _ _) (fun _ _ h => h)) (Keeps.one _ _ _ _) (fun _ _ h => h)⟩
  have h1 := set_block (set_block (set_block (set_block (set_block h 0 a') 1 b') 2 c') 3 d') 4 e'
  simpa using h1
end Go.Proofs.YtlmnmncdoiealaaGreatDoor
