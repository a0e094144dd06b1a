
/- Ops of a code, said plainly: their kinds as numbers, what is right of them. No program in sight. -/
import Derived.RowKit
namespace Go.Proofs.YtlmnmncdoiealaaGreatDoor
namespace Ir
/-- a kind's text, by its number: 1 set, 2 copy, 3 over+, 4 over-, 5 load, 6 store, 7 if, 8 out, 9 outr, 10 to 23 sums, 24 to 27 quotients -/
def lit : Nat → List UInt8
  | 1 => [115, 101, 116]
  | 2 => [99, 111, 112, 121]
  | 3 => [111, 118, 101, 114, 43]
  | 4 => [111, 118, 101, 114, 45]
  | 5 => [108, 111, 97, 100]
  | 6 => [115, 116, 111, 114, 101]
  | 7 => [105, 102]
  | 8 => [111, 117, 116]
  | 9 => [111, 117, 116, 114]
  | 10 => [97, 100, 100]
  | 11 => [115, 117, 98]
  | 12 => [97, 110, 100]
  | 13 => [111, 114]
  | 14 => [120, 111, 114]
  | 15 => [110, 111, 114]
  | 16 => [115, 108, 116]
  | 17 => [115, 108, 116, 117]
  | 18 => [115, 104, 108]
  | 19 => [115, 104, 114]
  | 20 => [115, 97, 114]
  | 21 => [109, 117, 108]
  | 22 => [109, 117, 108, 104]
  | 23 => [109, 117, 108, 104, 117]
  | 24 => [113, 117, 111]
  | 25 => [114, 101, 109]
  | 26 => [113, 117, 111, 117]
  | 27 => [114, 101, 109, 117]
  | _ => []
/-- a kind's number; 0: there is none such -/
def kn (k : ByteArray) : Nat := match (List.range 27).find? (fun j => k.toList == lit (j + 1)) with | some j => j + 1 | none => 0
set_option maxRecDepth 100000 in
theorem lit_inj {i j : Nat} (hi : 1 ≤ i ∧ i ≤ 27) (hj : 1 ≤ j ∧ j ≤ 27) (h : lit i = lit j) : i = j := by
  have key : ∀ a b : Fin 27, lit (a.val + 1) = lit (b.val + 1) → a = b := by decide +kernel
  have := congrArg Fin.val (key ⟨i - 1, by omega⟩ ⟨j - 1, by omega⟩ (by
    show lit (i - 1 + 1) = lit (j - 1 + 1)
    rw [show i - 1 + 1 = i by omega, show j - 1 + 1 = j by omega]
    exact h))
  simp only at this
  omega
theorem kn_le (k : ByteArray) : kn k ≤ 27 := by
  unfold kn
  split
  · rename_i j h
    have := List.mem_of_find?_eq_some h
    have := List.mem_range.1 this
    omega
  · omega
theorem eq_lit (k : ByteArray) (j : Nat) (hj : 1 ≤ j ∧ j ≤ 27) : (k.toList == lit j) = decide (kn k = j) := by
  unfold kn
  rw [Bool.eq_iff_iff, beq_iff_eq, decide_eq_true_iff]
  split
  · rename_i i h
    have h1 := List.mem_range.1 (List.mem_of_find?_eq_some h)
    have h2 := List.find?_some h
    simp only [beq_iff_eq] at h2
    constructor
    · intro h3
      exact lit_inj (by omega) hj (h2.symm.trans h3)
    · intro h3
      rw [← h3]
      exact h2
  · rename_i h
    rw [List.find?_eq_none] at h
    constructor
    · intro h3
      have := h (j - 1) (List.mem_range.2 (by omega))
      rw [show j - 1 + 1 = j by omega] at this
      simp [h3] at this
    · omega
theorem eq_lit2 (k : ByteArray) (j : Nat) (hj : 1 ≤ j ∧ j ≤ 27) : (k.toList == lit j) = (kn k == j) := by
  rw [eq_lit k j hj, Bool.eq_iff_iff, decide_eq_true_iff, beq_iff_eq]
/-- is a text one of the kinds': each, told -/
theorem kinds (k : ByteArray) (c : Nat) (h : kn k = c) : (k.toList == [115, 101, 116]) = (c == 1) ∧ (k.toList == [99, 111, 112, 121]) = (c == 2) ∧ (k.toList == [111, 118, 101, 114, 43]) = (c == 3) ∧ (k.toList == [111, 118, 101, 114, 45]) = (c == 4) ∧ (k.toList == [108, 111, 97, 100]) = (c == 5) ∧ (k.toList == [115, 116, 111, 114, 101]) = (c == 6) ∧ (k.toList == [105, 102]) = (c == 7) ∧ (k.toList == [111, 117, 116]) = (c == 8) ∧ (k.toList == [111, 117, 116, 114]) = (c == 9) ∧ (k.toList == [97, 100, 100]) = (c == 10) ∧ (k.toList == [115, 117, 98]) = (c == 11) ∧ (k.toList == [97, 110, 100]) = (c == 12) ∧ (k.toList == [111, 114]) = (c == 13) ∧ (k.toList == [120, 111, 114]) = (c == 14) ∧ (k.toList == [110, 111, 114]) = (c == 15) ∧ (k.toList == [115, 108, 116]) = (c == 16) ∧ (k.toList == [115, 108, 116, 117]) = (c == 17) ∧ (k.toList == [115, 104, 108]) = (c == 18) ∧ (k.toList == [115, 104, 114]) = (c == 19) ∧ (k.toList == [115, 97, 114]) = (c == 20) ∧ (k.toList == [109, 117, 108]) = (c == 21) ∧ (k.toList == [109, 117, 108, 104]) = (c == 22) ∧ (k.toList == [109, 117, 108, 104, 117]) = (c == 23) ∧ (k.toList == [113, 117, 111]) = (c == 24) ∧ (k.toList == [114, 101, 109]) = (c == 25) ∧ (k.toList == [113, 117, 111, 117]) = (c == 26) ∧ (k.toList == [114, 101, 109, 117]) = (c == 27) := by
  subst h
  exact ⟨eq_lit2 k 1 (by omega), eq_lit2 k 2 (by omega), eq_lit2 k 3 (by omega), eq_lit2 k 4 (by omega), eq_lit2 k 5 (by omega), eq_lit2 k 6 (by omega), eq_lit2 k 7 (by omega), eq_lit2 k 8 (by omega), eq_lit2 k 9 (by omega), eq_lit2 k 10 (by omega), eq_lit2 k 11 (by omega), eq_lit2 k 12 (by omega), eq_lit2 k 13 (by omega), eq_lit2 k 14 (by omega), eq_lit2 k 15 (by omega), eq_lit2 k 16 (by omega), eq_lit2 k 17 (by omega), eq_lit2 k 18 (by omega), eq_lit2 k 19 (by omega), eq_lit2 k 20 (by omega), eq_lit2 k 21 (by omega), eq_lit2 k 22 (by omega), eq_lit2 k 23 (by omega), eq_lit2 k 24 (by omega), eq_lit2 k 25 (by omega), eq_lit2 k 26 (by omega), eq_lit2 k 27 (by omega)⟩
theorem kn_some {k : ByteArray} {c : Nat} (h : kn k = c) (hc : c ≠ 0) : k.toList = lit c := by
  have h1 := kn_le k
  have := eq_lit k c (by omega)
  rw [h] at this
  simpa using this

/-- which fields a kind has -/
def hasD (c : Nat) : Bool := c = 1 ∨ c = 2 ∨ c = 5 ∨ c = 6 ∨ 10 ≤ c
def hasA (c : Nat) : Bool := 2 ≤ c ∧ c ≤ 7 ∨ 9 ≤ c
def hasB (c : Nat) : Bool := 3 ≤ c ∧ c ≤ 6 ∨ 10 ≤ c
def hasI (c : Nat) : Bool := c = 1 ∨ 5 ≤ c ∧ c ≤ 8
def fieldsS : Nat → List UInt8
  | 0 => []
  | 1 => [68, 73]
  | 2 => [68, 65]
  | 3 => [65, 66]
  | 4 => [65, 66]
  | 5 => [68, 65, 66, 73]
  | 6 => [68, 65, 66, 73]
  | 7 => [65, 73]
  | 8 => [73]
  | 9 => [65]
  | _ => [68, 65, 66]
def isSum (c : Nat) : Bool := 10 ≤ c
def isDiv (c : Nat) : Bool := 24 ≤ c
def leaves (c : Nat) : Bool := 7 ≤ c ∧ c ≤ 9
def isOut (c : Nat) : Bool := c = 8 ∨ c = 9

/-- an op -/
structure Op where
  k : ByteArray
  d : Int
  a : Int
  b : Int
  imm : Int
  at_ : Int
/-- its registers, and numbers of bytes -/
def regs (o : Op) : Bool :=
  (!hasD (kn o.k) || decide (kn o.k = 6) || decide (1 ≤ o.d ∧ o.d < 64)) && (!hasA (kn o.k) || decide (0 ≤ o.a ∧ o.a < 64)) && (!hasB (kn o.k) || decide (kn o.k = 5) || decide (0 ≤ o.b ∧ o.b < 64))
def bytes (o : Op) : Bool :=
  if kn o.k = 5 then decide (o.b = 1 ∨ o.b = 2 ∨ o.b = 4 ∨ o.b = -1 ∨ o.b = -2) else if kn o.k = 6 then decide (o.d = 1 ∨ o.d = 2 ∨ o.d = 4) else true
def bare (o : Op) : Bool := (hasD (kn o.k) || decide (o.d = 0)) && (hasA (kn o.k) || decide (o.a = 0)) && (hasB (kn o.k) || decide (o.b = 0)) && (hasI (kn o.k) || decide (o.imm = 0))
def opErr (o : Op) (many : Int) : Nat :=
  if kn o.k = 0 then 4 else if (regs o && bytes o && decide (0 ≤ o.at_) && decide (o.at_ < many)) = false then 2 else if bare o = false then 3 else 0
def stores (l : List Op) : Nat := l.countP (fun o => decide (kn o.k = 6))
def nop : Op := ⟨ByteArray.empty, 0, 0, 0, 0, 0⟩
/-- what is wrong of op number i -/
def errAt (many : Int) (l : List Op) (i : Nat) : Nat :=
  if opErr (l.getD i nop) many ≠ 0 then opErr (l.getD i nop) many
  else if (0 < i ∧ (l.getD i nop).at_ < (l.getD (i - 1) nop).at_) ∨ (isOut (kn (l.getD i nop).k) = true ∧ i + 1 < l.length) then 3 else 0
def firstBad (many : Int) (l : List Op) : Option Nat := (List.range l.length).find? (fun i => errAt many l i != 0)
/-- A CODE's FAULT: an error's number (0: none), its place (-1: none) -/
def fault (many : Int) (l : List Op) : Nat × Int :=
  if many < 1 ∨ 24 < many then (2, -1) else if 200 < l.length then (8, -1) else if 8 < stores l then (8, -1) else if l.length = 0 then (3, -1)
  else if isOut (kn (l.getD (l.length - 1) nop).k) = false then (3, -1)
  else match firstBad many l with | some i => (errAt many l i, i) | none => (0, -1)
theorem firstBad_at {many : Int} {l : List Op} {i : Nat} (hi : i < l.length) (hb : errAt many l i ≠ 0) (h : ∀ j, j < i → errAt many l j = 0) : firstBad many l = some i := by
  unfold firstBad
  rw [List.find?_eq_some_iff_append]
  refine ⟨by simpa using hb, List.range i, (List.range l.length).drop (i + 1), ?_, fun a ha => by simpa using h a (List.mem_range.1 ha)⟩
  apply List.ext_getElem?
  intro j
  by_cases h1 : j < i
  · rw [List.getElem?_append_left (by simpa using h1)]
    simp [h1, show j < l.length by omega]
  · rw [List.getElem?_append_right (by simpa using h1)]
    by_cases h2 : j = i
    · subst h2
      simp [hi]
    · rw [List.length_range, show j - i = (j - (i + 1)) + 1 by omega, List.getElem?_cons_succ, List.getElem?_drop, show i + 1 + (j - (i + 1)) = j by omega]
theorem firstBad_none {many : Int} {l : List Op} (h : ∀ j, j < l.length → errAt many l j = 0) : firstBad many l = none := by
  unfold firstBad
  rw [List.find?_eq_none]
  intro j hj
  simpa using h j (List.mem_range.1 hj)
end Ir
end Go.Proofs.YtlmnmncdoiealaaGreatDoor
