import Derived.RowKit
import Derived.Test.YtlbdkcnbgdmpaaaGreatDoorRows
import Derived.WalkKit
import Derived.WalkSpells
import Derived.WalkLawsBesides
import Derived.Lib.Hide
import Derived.Deep.OwnRows
import Derived.Deep.QuietTactic
import Derived.Laws.CopyOwn

/- CodeDefs -/
/- Instructions, said plainly: the table of operations, decoding. No program in sight. -/
namespace Go.Proofs.YtlbdkcnbgdmpaaaGreatDoor
namespace Cd
/-- an operation's name, major number, minor number, fields, order of text, kind (0 sum, 1 branch, 2 load, 3 store, 4 trap, 5 none) -/
structure Row where
  name : List UInt8
  major : Nat
  minor : Nat
  fields : List UInt8
  order : List UInt8
  kd : Nat
def row : Nat → Row
  | 1 => ⟨[115, 108, 108], 0, 0, [84, 68, 97], [68, 84, 97], 0⟩
  | 2 => ⟨[115, 114, 108], 0, 2, [84, 68, 97], [68, 84, 97], 0⟩
  | 3 => ⟨[115, 114, 97], 0, 3, [84, 68, 97], [68, 84, 97], 0⟩
  | 4 => ⟨[115, 108, 108, 118], 0, 4, [83, 84, 68], [68, 84, 83], 0⟩
  | 5 => ⟨[115, 114, 108, 118], 0, 6, [83, 84, 68], [68, 84, 83], 0⟩
  | 6 => ⟨[115, 114, 97, 118], 0, 7, [83, 84, 68], [68, 84, 83], 0⟩
  | 7 => ⟨[106, 114], 0, 8, [83], [83], 1⟩
  | 8 => ⟨[106, 97, 108, 114], 0, 9, [83, 68], [68, 83], 1⟩
  | 9 => ⟨[115, 121, 115, 99, 97, 108, 108], 0, 12, [], [], 4⟩
  | 10 => ⟨[98, 114, 101, 97, 107], 0, 13, [], [], 4⟩
  | 11 => ⟨[109, 102, 104, 105], 0, 16, [68], [68], 0⟩
  | 12 => ⟨[109, 116, 104, 105], 0, 17, [83], [83], 0⟩
  | 13 => ⟨[109, 102, 108, 111], 0, 18, [68], [68], 0⟩
  | 14 => ⟨[109, 116, 108, 111], 0, 19, [83], [83], 0⟩
  | 15 => ⟨[109, 117, 108, 116], 0, 24, [83, 84], [83, 84], 0⟩
  | 16 => ⟨[109, 117, 108, 116, 117], 0, 25, [83, 84], [83, 84], 0⟩
  | 17 => ⟨[100, 105, 118], 0, 26, [83, 84], [83, 84], 0⟩
  | 18 => ⟨[100, 105, 118, 117], 0, 27, [83, 84], [83, 84], 0⟩
  | 19 => ⟨[97, 100, 100], 0, 32, [83, 84, 68], [68, 83, 84], 0⟩
  | 20 => ⟨[97, 100, 100, 117], 0, 33, [83, 84, 68], [68, 83, 84], 0⟩
  | 21 => ⟨[115, 117, 98], 0, 34, [83, 84, 68], [68, 83, 84], 0⟩
  | 22 => ⟨[115, 117, 98, 117], 0, 35, [83, 84, 68], [68, 83, 84], 0⟩
  | 23 => ⟨[97, 110, 100], 0, 36, [83, 84, 68], [68, 83, 84], 0⟩
  | 24 => ⟨[111, 114], 0, 37, [83, 84, 68], [68, 83, 84], 0⟩
  | 25 => ⟨[120, 111, 114], 0, 38, [83, 84, 68], [68, 83, 84], 0⟩
  | 26 => ⟨[110, 111, 114], 0, 39, [83, 84, 68], [68, 83, 84], 0⟩
  | 27 => ⟨[115, 108, 116], 0, 42, [83, 84, 68], [68, 83, 84], 0⟩
  | 28 => ⟨[115, 108, 116, 117], 0, 43, [83, 84, 68], [68, 83, 84], 0⟩
  | 29 => ⟨[106], 2, 0, [106], [106], 1⟩
  | 30 => ⟨[106, 97, 108], 3, 0, [106], [106], 1⟩
  | 31 => ⟨[98, 101, 113], 4, 0, [83, 84, 105], [83, 84, 110], 1⟩
  | 32 => ⟨[98, 110, 101], 5, 0, [83, 84, 105], [83, 84, 110], 1⟩
  | 33 => ⟨[98, 108, 101, 122], 6, 0, [83, 105], [83, 110], 1⟩
  | 34 => ⟨[98, 103, 116, 122], 7, 0, [83, 105], [83, 110], 1⟩
  | 35 => ⟨[97, 100, 100, 105], 8, 0, [83, 84, 105], [84, 83, 110], 0⟩
  | 36 => ⟨[97, 100, 100, 105, 117], 9, 0, [83, 84, 105], [84, 83, 110], 0⟩
  | 37 => ⟨[115, 108, 116, 105], 10, 0, [83, 84, 105], [84, 83, 110], 0⟩
  | 38 => ⟨[115, 108, 116, 105, 117], 11, 0, [83, 84, 105], [84, 83, 110], 0⟩
  | 39 => ⟨[97, 110, 100, 105], 12, 0, [83, 84, 105], [84, 83, 117], 0⟩
  | 40 => ⟨[111, 114, 105], 13, 0, [83, 84, 105], [84, 83, 117], 0⟩
  | 41 => ⟨[120, 111, 114, 105], 14, 0, [83, 84, 105], [84, 83, 117], 0⟩
  | 42 => ⟨[108, 117, 105], 15, 0, [84, 105], [84, 117], 0⟩
  | 43 => ⟨[109, 102, 99, 48], 16, 0, [84, 68], [84, 68], 4⟩
  | 44 => ⟨[109, 116, 99, 48], 16, 4, [84, 68], [84, 68], 4⟩
  | 45 => ⟨[101, 114, 101, 116], 16, 16, [], [], 4⟩
  | 46 => ⟨[108, 98], 32, 0, [83, 84, 105], [84, 109], 2⟩
  | 47 => ⟨[108, 104], 33, 0, [83, 84, 105], [84, 109], 2⟩
  | 48 => ⟨[108, 119], 35, 0, [83, 84, 105], [84, 109], 2⟩
  | 49 => ⟨[108, 98, 117], 36, 0, [83, 84, 105], [84, 109], 2⟩
  | 50 => ⟨[108, 104, 117], 37, 0, [83, 84, 105], [84, 109], 2⟩
  | 51 => ⟨[115, 98], 40, 0, [83, 84, 105], [84, 109], 3⟩
  | 52 => ⟨[115, 104], 41, 0, [83, 84, 105], [84, 109], 3⟩
  | 53 => ⟨[115, 119], 43, 0, [83, 84, 105], [84, 109], 3⟩
  | _ => ⟨[], 0, 0, [], [], 5⟩
/-- a kind's text -/
def kindS : Nat → List UInt8
  | 0 => [115, 117, 109]
  | 1 => [98, 114, 97, 110, 99, 104]
  | 2 => [108, 111, 97, 100]
  | 3 => [115, 116, 111, 114, 101]
  | 4 => [116, 114, 97, 112]
  | _ => []
/-- the kind that Kind tells: 0 is a trap -/
def kd (op : Nat) : Nat := if op = 0 then 4 else (row op).kd

/-- a field's place: how far up, how many bits -/
def up (f : UInt8) : Nat := if f = 83 then 21 else if f = 84 then 16 else if f = 68 then 11 else if f = 97 then 6 else 0
def wd (f : UInt8) : Nat := if f = 83 then 5 else if f = 84 then 5 else if f = 68 then 5 else if f = 97 then 5 else if f = 105 then 16 else 26
/-- bits of a word: so many from a place on -/
def part (w : Int) (u n : Nat) : Int := w / 2 ^ u % 2 ^ n
def has (l : List UInt8) (c : UInt8) : Bool := l.contains c
/-- what stands in the S field, and at the end, where these are none of the operation's fields -/
def low (r : Row) : Int := if r.major = 0 then r.minor else if r.major = 16 ∧ r.minor = 16 then 24 else 0
def mid (r : Row) : Int := if r.major = 16 then r.minor else 0
/-- is a word of this row? -/
def isRow (w : Int) (r : Row) : Bool :=
  decide (part w 26 6 = r.major) && (has r.fields 106 || ((has r.fields 83 || decide (part w 21 5 = mid r)) && (has r.fields 84 || decide (part w 16 5 = 0)) &&
    (has r.fields 105 || ((has r.fields 68 || decide (part w 11 5 = 0)) && (has r.fields 97 || decide (part w 6 5 = 0)) && decide (part w 0 6 = low r)))))
/-- an instruction -/
structure Ins where
  op : Nat
  S : Int
  T : Int
  D : Int
  imm : Int
def none : Ins := ⟨0, 0, 0, 0, 0⟩
/-- the instruction of an operation that a word is -/
def insOf (op : Nat) (w : Int) : Ins :=
  let f := (row op).fields
  ⟨op, if has f 83 then part w 21 5 else 0, if has f 84 then part w 16 5 else 0, if has f 68 then part w 11 5 else 0,
    if has f 97 then part w 6 5 else if has f 105 then part w 0 16 else if has f 106 then part w 0 26 else 0⟩
/-- the first operation from one on that a word is of -/
def find (w : Int) : Nat → Nat → Ins
  | 0, _ => none
  | n + 1, op => if isRow w (row op) then insOf op w else find w n (op + 1)
def decOf (w : Int) : Ins := find w 53 1

theorem find_step (w : Int) (op : Nat) (h : op < 54) : find w (54 - op) op = if isRow w (row op) then insOf op w else find w (54 - (op + 1)) (op + 1) := by
  rw [show 54 - op = (54 - (op + 1)) + 1 by omega]
  rfl
theorem part_rng (w : Int) (u n : Nat) : 0 ≤ part w u n ∧ part w u n < 2 ^ n := by
  have h : (0 : Int) < 2 ^ n := Int.pow_pos (by decide)
  exact ⟨Int.emod_nonneg _ (by omega), Int.emod_lt_of_pos _ h⟩
/-- the ranges of an instruction's fields -/
structure Ok (i : Ins) : Prop where
  op : i.op < 54
  S : 0 ≤ i.S ∧ i.S < 32
  T : 0 ≤ i.T ∧ i.T < 32
  D : 0 ≤ i.D ∧ i.D < 32
  imm : 0 ≤ i.imm ∧ i.imm < 67108864
theorem ok_none : Ok none := ⟨by decide, by decide, by decide, by decide, by decide⟩
theorem ok_ins (op : Nat) (w : Int) (h : op < 54) : Ok (insOf op w) := by
  have h1 := part_rng w 21 5
  have h2 := part_rng w 16 5
  have h3 := part_rng w 11 5
  have h4 := part_rng w 6 5
  have h5 := part_rng w 0 16
  have h6 := part_rng w 0 26
  simp only [Int.reducePow] at h1 h2 h3 h4 h5 h6
  constructor
  · exact h
  · simp only [insOf]; split <;> omega
  · simp only [insOf]; split <;> omega
  · simp only [insOf]; split <;> omega
  · simp only [insOf]; split
    · omega
    · split
      · omega
      · split <;> omega
theorem ok_find (w : Int) : ∀ n op, op + n ≤ 54 → Ok (find w n op)
  | 0, _, _ => ok_none
  | n + 1, op, h => by
    unfold find
    split
    · exact ok_ins op w (by omega)
    · exact ok_find w n (op + 1) (by omega)
theorem ok_dec (w : Int) : Ok (decOf w) := ok_find w 53 1 (by omega)

/-! and, not: by parts -/
theorem and_split (k x y c d : Nat) (hy : y < 2 ^ k) (hd : d < 2 ^ k) : (x * 2 ^ k + y) &&& (c * 2 ^ k + d) = (x &&& c) * 2 ^ k + (y &&& d) := by
  apply Nat.eq_of_testBit_eq
  intro i
  have hyd : y &&& d < 2 ^ k := Nat.and_lt_two_pow _ hd
  rw [Nat.testBit_and, Nat.mul_comm x, Nat.mul_comm c, Nat.mul_comm (x &&& c), Nat.testBit_two_pow_mul_add _ hy, Nat.testBit_two_pow_mul_add _ hd, Nat.testBit_two_pow_mul_add _ hyd]
  split
  · rw [Nat.testBit_and]
  · rw [Nat.testBit_and]
theorem and_ones (n x : Nat) (h : x < 2 ^ n) : x &&& (2 ^ n - 1) = x := by
  rw [Nat.and_two_pow_sub_one_eq_mod, Nat.mod_eq_of_lt h]
end Cd
end Go.Proofs.YtlbdkcnbgdmpaaaGreatDoor

/- WordDefs -/
/- Plain numbers: what the functions of the packages word and changelingref1 give, said of integers; no program in sight. -/
namespace Go.Proofs.YtlbdkcnbgdmpaaaGreatDoor
namespace Wd
open Go.RowKit

/-- the signed value of a word -/
def sg (a : Int) : Int := if a < 2147483648 then a else a - 4294967296
theorem sg_wrap (a : Int) (h : 0 ≤ a) (h' : a < 4294967296) : wrap32 a = sg a := by unfold wrap32 sg; split <;> omega
theorem sg_bd (a : Int) (h : 0 ≤ a) (h' : a < 4294967296) : -2147483648 ≤ sg a ∧ sg a ≤ 2147483647 := by unfold sg; split <;> omega
theorem sg_mod (a : Int) (h : 0 ≤ a) (h' : a < 4294967296) : sg a % 4294967296 = a := by unfold sg; split <;> omega
theorem sg_of (n : Int) (h : -2147483648 ≤ n) (h' : n ≤ 2147483647) : sg (n % 4294967296) = n := by unfold sg; split <;> omega
theorem sg_inj (a b : Int) (ha : 0 ≤ a ∧ a < 4294967296) (hb : 0 ≤ b ∧ b < 4294967296) (h : sg a = sg b) : a = b := by
  unfold sg at h; split at h <;> split at h <;> omega

/-- is a number a signed word? -/
def isS (n : Int) : Bool := decide (-2147483648 ≤ n ∧ n < 2147483648)
/-- is a less than b? -/
def less (a b : Int) (s : Bool) : Bool := if s then decide (sg a < sg b) else decide (a < b)

theorem add_over (a b : Int) (ha : 0 ≤ a ∧ a < 4294967296) (hb : 0 ≤ b ∧ b < 4294967296) :
    (wrap64 (wrap64 (wrap32 a) + wrap64 (wrap32 b)) != wrap64 (wrap32 ((a + b) % 4294967296))) = !isS (sg a + sg b) := by
  have h1 : wrap64 (wrap64 (wrap32 a) + wrap64 (wrap32 b)) = sg a + sg b := by
    unfold wrap64 wrap32 sg; split <;> split <;> omega
  have h2 : wrap64 (wrap32 ((a + b) % 4294967296)) = sg ((a + b) % 4294967296) := by
    unfold wrap64 wrap32 sg; split <;> omega
  rw [h1, h2, Bool.eq_iff_iff]
  simp only [isS, bne_iff_ne, ne_eq, Bool.not_eq_true', decide_eq_false_iff_not]
  unfold sg; split <;> split <;> split <;> omega
theorem sub_over (a b : Int) (ha : 0 ≤ a ∧ a < 4294967296) (hb : 0 ≤ b ∧ b < 4294967296) :
    (wrap64 (wrap64 (wrap32 a) - wrap64 (wrap32 b)) != wrap64 (wrap32 ((a - b) % 4294967296))) = !isS (sg a - sg b) := by
  have h1 : wrap64 (wrap64 (wrap32 a) - wrap64 (wrap32 b)) = sg a - sg b := by
    unfold wrap64 wrap32 sg; split <;> split <;> omega
  have h2 : wrap64 (wrap32 ((a - b) % 4294967296)) = sg ((a - b) % 4294967296) := by
    unfold wrap64 wrap32 sg; split <;> omega
  rw [h1, h2, Bool.eq_iff_iff]
  simp only [isS, bne_iff_ne, ne_eq, Bool.not_eq_true', decide_eq_false_iff_not]
  unfold sg; split <;> split <;> split <;> omega
theorem mul_bd (X Y p q : Int) (hX : 0 ≤ X) (hXp : X ≤ p) (hY : 0 ≤ Y) (hYq : Y ≤ q) : 0 ≤ X * Y ∧ X * Y ≤ p * q := by
  refine ⟨Int.mul_nonneg hX hY, Int.mul_le_mul hXp hYq hY (by omega)⟩
theorem split (X Y : Int) : X * (Y % 65536) + 65536 * (X * (Y / 65536)) = X * Y := by
  have h : Y % 65536 + 65536 * (Y / 65536) = Y := by omega
  have e : X * (Y % 65536 + 65536 * (Y / 65536)) = X * (Y % 65536) + 65536 * (X * (Y / 65536)) := by
    rw [Int.mul_add, ← Int.mul_assoc, Int.mul_comm X 65536, Int.mul_assoc]
  rw [← e, h]
/-- the product's two words -/
def pr (a b : Int) (s : Bool) : Int := if s then sg a * sg b else a * b
def hi (a b : Int) (s : Bool) : Int := pr a b s / 4294967296 % 4294967296
def lo (a b : Int) (s : Bool) : Int := pr a b s % 4294967296
def Fac (p X Y : Int) (M : Bool) : Prop := 0 ≤ X ∧ X ≤ 4294967295 ∧ 0 ≤ Y ∧ Y ≤ 4294967295 ∧ p = if M then -(X * Y) else X * Y
theorem fac_f (a b : Int) (ha : 0 ≤ a ∧ a < 4294967296)  (hb : 0 ≤ b ∧ b < 4294967296) : Fac (pr a b false) a b false := ⟨by omega, by omega, by omega, by omega, rfl⟩
theorem fac_pp (a b x y : Int) (hx : sg a = x) (hy : sg b = y) (h1 : -2147483648 ≤ x ∧ x ≤ 2147483647) (h2 : -2147483648 ≤ y ∧ y ≤ 2147483647) (h : 0 ≤ x) (h' : 0 ≤ y) : Fac (pr a b true) x y false :=
  ⟨by omega, by omega, by omega, by omega, by rw [pr, if_pos rfl, hx, hy]; first | rfl | (rw [if_pos rfl]; first | rw [Int.neg_mul, Int.neg_neg] | rw [Int.mul_neg, Int.neg_neg]) | (rw [if_neg (by decide), Int.neg_mul, Int.mul_neg, Int.neg_neg])⟩
theorem fac_np (a b x y : Int) (hx : sg a = x) (hy : sg b = y) (h1 : -2147483648 ≤ x ∧ x ≤ 2147483647) (h2 : -2147483648 ≤ y ∧ y ≤ 2147483647) (h : x < 0) (h' : 0 ≤ y) : Fac (pr a b true) (-x) y true :=
  ⟨by omega, by omega, by omega, by omega, by rw [pr, if_pos rfl, hx, hy]; first | rfl | (rw [if_pos rfl]; first | rw [Int.neg_mul, Int.neg_neg] | rw [Int.mul_neg, Int.neg_neg]) | (rw [if_neg (by decide), Int.neg_mul, Int.mul_neg, Int.neg_neg])⟩
theorem fac_pn (a b x y : Int) (hx : sg a = x) (hy : sg b = y) (h1 : -2147483648 ≤ x ∧ x ≤ 2147483647) (h2 : -2147483648 ≤ y ∧ y ≤ 2147483647) (h : 0 ≤ x) (h' : y < 0) : Fac (pr a b true) x (-y) true :=
  ⟨by omega, by omega, by omega, by omega, by rw [pr, if_pos rfl, hx, hy]; first | rfl | (rw [if_pos rfl]; first | rw [Int.neg_mul, Int.neg_neg] | rw [Int.mul_neg, Int.neg_neg]) | (rw [if_neg (by decide), Int.neg_mul, Int.mul_neg, Int.neg_neg])⟩
theorem fac_nn (a b x y : Int) (hx : sg a = x) (hy : sg b = y) (h1 : -2147483648 ≤ x ∧ x ≤ 2147483647) (h2 : -2147483648 ≤ y ∧ y ≤ 2147483647) (h : x < 0) (h' : y < 0) : Fac (pr a b true) (-x) (-y) false :=
  ⟨by omega, by omega, by omega, by omega, by rw [pr, if_pos rfl, hx, hy]; first | rfl | (rw [if_pos rfl]; first | rw [Int.neg_mul, Int.neg_neg] | rw [Int.mul_neg, Int.neg_neg]) | (rw [if_neg (by decide), Int.neg_mul, Int.mul_neg, Int.neg_neg])⟩

/-- quotient, rest, and whether there are any -/
def quo (a b : Int) (s : Bool) : Int := if b = 0 then 0 else if s then (sg a).tdiv (sg b) % 4294967296 else a / b
def rst (a b : Int) (s : Bool) : Int := if b = 0 then 0 else if s then (sg a).tmod (sg b) % 4294967296 else a % b

theorem p2 : ∀ k : Nat, k < 33 → 1 ≤ (2 : Int) ^ k ∧ (2 : Int) ^ k ≤ 4294967296 ∧ (2 : Int) ^ k * 2 ^ (32 - k) = 4294967296 ∧ (4294967296 : Int) / 2 ^ k = 2 ^ (32 - k) := by decide +kernel
theorem p2' : ∀ k : Nat, k < 32 → 1 ≤ (2 : Int) ^ k ∧ (2 : Int) ^ k ≤ 2147483648 := by decide +kernel

def shl (a n : Int) : Int := a * 2 ^ (n % 32).toNat % 4294967296
def shr (a n : Int) : Int := a / 2 ^ (n % 32).toNat
def sar (a n : Int) : Int := sg a / 2 ^ (n % 32).toNat % 4294967296
/-- a shift by its letter -/
def shift (k a n : Int) : Int := if k = 60 then shl a n else if k = 62 then shr a n else if k = 126 then sar a n else a
/-- the lowest bits as a word -/
def wide (v n : Int) (s : Bool) : Int :=
  if n < 1 ∨ 32 < n then v else if s = true ∧ 2 ^ n.toNat ≤ 2 * (v % 2 ^ n.toNat) then (v % 2 ^ n.toNat - 2 ^ n.toNat) % 4294967296 else v % 2 ^ n.toNat

theorem shl_of (a q r : Int) (hq : 1 ≤ q) (hqr : q * r = 4294967296) : a * q % 4294967296 = a % r * q := by
  rw [← hqr, Int.mul_comm a q, Int.mul_emod_mul_of_pos _ _ (by omega), Int.mul_comm]
/-- the power that a shift is by, named: its bounds and the rest of a word -/
theorem pw (n : Int) : ∃ (m : Nat) (q r : Int), n % 32 = m ∧ m < 32 ∧ (2 : Int) ^ (n % 32).toNat = q ∧ (2 : Int) ^ m = q ∧ 1 ≤ q ∧ q ≤ 2147483648 ∧ 1 ≤ r ∧ q * r = 4294967296 ∧ 4294967296 / q = r := by
  have hm : n % 32 = ((n % 32).toNat : Int) := by omega
  have hlt : (n % 32).toNat < 32 := by omega
  generalize (n % 32).toNat = m at *
  have h1 := p2 m (by omega)
  have h2 := p2' m hlt
  have h3 := p2 (32 - m) (by omega)
  exact ⟨m, 2 ^ m, 2 ^ (32 - m), hm, hlt, rfl, rfl, h1.1, h2.2, h3.1, h1.2.2.1, h1.2.2.2⟩
theorem rem_bd (a q r : Int) (hq : 1 ≤ q) (hqr : q * r = 4294967296) : 0 ≤ a % r * q ∧ a % r * q < 4294967296 := by
  rw [← shl_of a q r hq hqr]; omega
/-- a floored quotient by way of the one cut towards nought -/
theorem floor_q (s q : Int) (hq : 1 ≤ q) : s / q = if s < 0 ∧ s.tmod q ≠ 0 then s.tdiv q - 1 else s.tdiv q := by
  have h1 := Int.mul_tdiv_add_tmod s q
  split
  · rename_i h
    have := Int.tmod_lt_of_pos s (b := q) (by omega)
    have h3 : s.tmod q ≤ 0 := by
      have := Int.tmod_nonneg (a := -s) q (by omega); rw [Int.neg_tmod] at this; omega
    have h4 : -q < s.tmod q := by
      have := Int.tmod_lt_of_pos (-s) (b := q) (by omega); rw [Int.neg_tmod] at this; omega
    refine Int.ediv_eq_iff_of_pos (by omega) |>.2 ?_
    constructor
    · rw [Int.sub_mul, Int.mul_comm]; omega
    · rw [Int.sub_mul, Int.mul_comm]; omega
  · rename_i h
    by_cases h0 : 0 ≤ s
    · exact (Int.tdiv_eq_ediv_of_nonneg h0).symm
    · have hz : s.tmod q = 0 := by
        have := Classical.not_and_iff_not_or_not.1 h; omega
      have : q * s.tdiv q = s := by omega
      rw [Int.ediv_eq_iff_of_pos (by omega), Int.mul_comm]; omega
theorem quo_bd (x y : Int) (hx : -2147483648 ≤ x ∧ x ≤ 2147483647) (hy : y ≠ 0) (h : ¬ (x = -2147483648 ∧ y = -1)) : -2147483648 ≤ x.tdiv y ∧ x.tdiv y ≤ 2147483647 := by
  have h1 : (x.tdiv y).natAbs ≤ x.natAbs := by rw [Int.natAbs_tdiv]; exact Nat.div_le_self _ _
  refine ⟨by omega, ?_⟩
  apply Classical.byContradiction
  intro hc
  have h2 : x.natAbs = 2147483648 := by omega
  have h3 : (x.tdiv y).natAbs = 2147483648 := by omega
  have hx' : x = -2147483648 := by omega
  rw [Int.natAbs_tdiv, h2] at h3
  have h3 : 2147483648 / y.natAbs = 2147483648 := h3
  have hy1 : y.natAbs = 1 := by
    apply Classical.byContradiction
    intro hn
    have h9 : 2147483648 / y.natAbs ≤ 2147483648 / 2 := Nat.div_le_div_left (by omega) (by omega)
    rw [h3] at h9
    exact absurd h9 (by decide)
  have hy2 : y = 1 := by
    have : y ≠ -1 := fun e => h ⟨hx', e⟩
    omega
  rw [hy2, Int.tdiv_one] at hc
  omega

theorem wide_of (v n : Int) (_hv : 0 ≤ v ∧ v < 4294967296) (h1 : 1 ≤ n) (h2 : n ≤ 32) :
    v * 2 ^ (32 - n).toNat % 4294967296 / 2 ^ (32 - n).toNat = wide v n false ∧ wrap32 (v * 2 ^ (32 - n).toNat % 4294967296) / 2 ^ (32 - n).toNat % 4294967296 = wide v n true := by
  have hk : n.toNat < 33 := by omega
  have hk' : (32 - n).toNat = 32 - n.toNat := by omega
  have h3 := p2 n.toNat hk
  have h4 := p2 (32 - n.toNat) (by omega)
  have hw : ∀ s, wide v n s = if s = true ∧ 2 ^ n.toNat ≤ 2 * (v % 2 ^ n.toNat) then (v % 2 ^ n.toNat - 2 ^ n.toNat) % 4294967296 else v % 2 ^ n.toNat := fun s => by rw [wide, if_neg (by omega)]
  rw [hw, hw, hk']
  simp only [Bool.false_eq_true, false_and, if_false, true_and]
  generalize (2 : Int) ^ n.toNat = r at *
  generalize (2 : Int) ^ (32 - n.toNat) = q at *
  obtain ⟨r1, _, hqr, _⟩ := h3
  obtain ⟨q1, _, _, _⟩ := h4
  have hqr' : q * r = 4294967296 := by rw [Int.mul_comm]; exact hqr
  have hb := rem_bd v q r q1 hqr'
  rw [shl_of v q r q1 hqr']
  have hm : 0 ≤ v % r ∧ v % r < r := ⟨Int.emod_nonneg _ (by omega), Int.emod_lt_of_pos _ (by omega)⟩
  generalize v % r = m at *
  refine ⟨Int.mul_ediv_cancel _ (by omega), ?_⟩
  rw [sg_wrap _ hb.1 hb.2]
  have hd : 2 * (m * q) = (2 * m) * q := by rw [Int.mul_assoc]
  by_cases hc : r ≤ 2 * m
  · rw [if_pos hc]
    have h5 : r * q ≤ (2 * m) * q := Int.mul_le_mul_of_nonneg_right hc (by omega)
    rw [sg, if_neg (by omega), ← hqr', Int.mul_comm q r, ← Int.sub_mul, Int.mul_ediv_cancel _ (by omega), hqr]
  · rw [if_neg hc]
    have h5 : (2 * m) * q < r * q := Int.mul_lt_mul_of_pos_right (by omega) (by omega)
    rw [sg, if_pos (by omega), Int.mul_ediv_cancel _ (by omega)]
    have h6 : r * 1 ≤ r * q := Int.mul_le_mul_of_nonneg_left q1 (by omega)
    omega
theorem quo_0 (a : Int) (s : Bool) : quo a 0 s = 0 := rfl
theorem rst_0 (a : Int) (s : Bool) : rst a 0 s = 0 := rfl
theorem quo_u (a b : Int) (h : b ≠ 0) : quo a b false = a / b := by rw [quo, if_neg h]; rfl
theorem rst_u (a b : Int) (h : b ≠ 0) : rst a b false = a % b := by rw [rst, if_neg h]; rfl
theorem quo_s (a b : Int) (h : b ≠ 0) : quo a b true = (sg a).tdiv (sg b) % 4294967296 := by rw [quo, if_neg h]; rfl
theorem rst_s (a b : Int) (h : b ≠ 0) : rst a b true = (sg a).tmod (sg b) % 4294967296 := by rw [rst, if_neg h]; rfl
theorem shift_60 (a n q : Int) (h : (2 : Int) ^ (n % 32).toNat = q) : shift 60 a n = a * q % 4294967296 := by rw [← h]; rfl
theorem shift_62 (a n q : Int) (h : (2 : Int) ^ (n % 32).toNat = q) : shift 62 a n = a / q := by rw [← h]; rfl
theorem shift_126 (a n q : Int) (h : (2 : Int) ^ (n % 32).toNat = q) : shift 126 a n = sg a / q % 4294967296 := by rw [← h]; rfl
theorem shift_no (k a n : Int) (h : k ≠ 60) (h' : k ≠ 62) (h'' : k ≠ 126) : shift k a n = a := by rw [shift, if_neg h, if_neg h', if_neg h'']
theorem u64_mod (p : Int) : IntKind.u64.wrap p = p % 18446744073709551616 := by simp [IntKind.wrap, IntKind.bits, IntKind.signed]
theorem mul_u (a b : Int) : IntKind.u64.wrap (a * b) / 4294967296 % 4294967296 = hi a b false ∧ IntKind.u64.wrap (a * b) % 4294967296 = lo a b false := by
  rw [u64_mod]
  show _ = (a * b) / 4294967296 % 4294967296 ∧ _ = (a * b) % 4294967296
  generalize a * b = p
  omega
theorem mul_s (a b : Int) (ha : 0 ≤ a ∧ a < 4294967296) (hb : 0 ≤ b ∧ b < 4294967296) :
    IntKind.u64.wrap (wrap64 (wrap64 (wrap32 a) * wrap64 (wrap32 b))) / 4294967296 % 4294967296 = hi a b true ∧ IntKind.u64.wrap (wrap64 (wrap64 (wrap32 a) * wrap64 (wrap32 b))) % 4294967296 = lo a b true := by
  have h1 : wrap64 (wrap32 a) = sg a := by rw [sg_wrap a ha.1 ha.2]; have := sg_bd a ha.1 ha.2; unfold wrap64; omega
  have h2 : wrap64 (wrap32 b) = sg b := by rw [sg_wrap b hb.1 hb.2]; have := sg_bd b hb.1 hb.2; unfold wrap64; omega
  rw [h1, h2, u64_mod]
  show _ = (sg a * sg b) / 4294967296 % 4294967296 ∧ _ = (sg a * sg b) % 4294967296
  generalize sg a * sg b = p
  unfold wrap64
  omega
end Wd
end Go.Proofs.YtlbdkcnbgdmpaaaGreatDoor

/- Wide -/
/- The walk of word.Wide. -/
namespace Go.Proofs.YtlbdkcnbgdmpaaaGreatDoor
open Go.RowKit
set_option linter.unusedVariables false

theorem ret_i {k : IntKind} {a b : Int} (h : a = b) : Ending.returned (.int k a) = .returned (.int k b) := by rw [h]

set_option maxHeartbeats 400000 in
theorem wide_any (v n : Int) (s : Bool) (w : World) (hv : 0 ≤ v ∧ v < 4294967296) :
    Calls Tryz.prog 47 #[.int .u32 v, .int .i64 n, .bool s] w fun e w' => e = .returned (.int .u32 (Wd.wide v n s)) ∧ w = w' := by
  have H : Hid (Wd.wide v n s = Wd.wide v n s) := Lib.hid rfl
  by_cases h1 : n < 1
  · go_enter Tryz.func47, Tryz.ntmps47
    go_wp2
    go_ret
    exact ⟨ret_i (by rw [Wd.wide, if_pos (by omega)]), rfl⟩
  · by_cases h2 : 32 < n
    · go_enter Tryz.func47, Tryz.ntmps47
      go_wp2
      go_ret
      exact ⟨ret_i (by rw [Wd.wide, if_pos (by omega)]), rfl⟩
    · have K := Lib.hid (Wd.wide_of v n hv (by omega) (by omega))
      cases s
      all_goals
        go_enter Tryz.func47, Tryz.ntmps47
        go_wp2
        go_ret
        refine ⟨ret_i ?_, rfl⟩
      · exact K.out.1
      · exact K.out.2
end Go.Proofs.YtlbdkcnbgdmpaaaGreatDoor

/- WideOf -/
/- The walks of the reference's Word and WideOf. -/
namespace Go.Proofs.YtlbdkcnbgdmpaaaGreatDoor
open Go.RowKit
set_option linter.unusedVariables false

theorem ret_int {k : IntKind} {a b : Int} (h : a = b) : Ending.returned (.int k a) = .returned (.int k b) := by rw [h]

set_option maxHeartbeats 400000 in
theorem word_any (n : Int) (w : World) (hn : -9223372036854775808 ≤ n ∧ n ≤ 9223372036854775807) :
    Calls Tryz.prog 42 #[.int .i64 n] w fun e w' => e = .returned (.int .u32 (n % 4294967296)) ∧ w = w' := by
  have hm : Hid (0 ≤ n → n.tmod 4294967296 = n % 4294967296) := Lib.hid fun h => Int.tmod_eq_emod_of_nonneg h
  have hm' : Hid (n < 0 → n.tmod 4294967296 = -((-n) % 4294967296)) := Lib.hid fun h => by
    have := Int.tmod_eq_emod_of_nonneg (a := -n) (b := 4294967296) (by omega)
    rw [Int.neg_tmod] at this; omega
  go_enter Tryz.func42, Tryz.ntmps42
  go_wp2
  all_goals
    go_ret
    refine ⟨ret_int ?_, rfl⟩
    have hm := hm.out
    have hm' := hm'.out
    try unfold wrap64
    omega

set_option maxHeartbeats 400000 in
theorem wideOf_any (v n : Int) (s : Bool) (w : World) (hv : 0 ≤ v ∧ v < 4294967296) :
    Calls Tryz.prog 61 #[.int .u32 v, .int .i64 n, .bool s] w fun e w' => e = .returned (.int .u32 (Wd.wide v n s)) ∧ w = w' := by
  by_cases h1 : n < 1
  · go_enter Tryz.func61, Tryz.ntmps61
    go_wp2
    go_ret
    exact ⟨ret_i (by rw [Wd.wide, if_pos (by omega)]), rfl⟩
  · by_cases h2 : 32 < n
    · go_enter Tryz.func61, Tryz.ntmps61
      go_wp2
      go_ret
      exact ⟨ret_i (by rw [Wd.wide, if_pos (by omega)]), rfl⟩
    · obtain ⟨m, hm⟩ : ∃ m : Nat, n = m := ⟨n.toNat, by omega⟩
      subst hm
      have hw : Wd.wide v m s = if s = true ∧ (2 : Int) ^ m ≤ 2 * (v % 2 ^ m) then (v % 2 ^ m - 2 ^ m) % 4294967296 else v % 2 ^ m := by
        rw [Wd.wide, if_neg (by omega), Int.toNat_natCast]
      have HW := Lib.hid hw
      clear hw
      have hd1 : decide ((m : Int) < 1) = false := by simpa using h1
      go_enter Tryz.func61, Tryz.ntmps61
      go_wp2
      go_loop [7, 8] (fun s7 s8 => ∃ j : Nat, j ≤ m ∧ s7 = .int .i64 (2 ^ j) ∧ s8 = .int .i64 j) (fun _ i => m - (intOf i).toNat)
      case atStart => exact ⟨0, Nat.zero_le _, rfl, rfl⟩
      case round =>
        obtain ⟨j, hj, rfl, rfl⟩ := hrel
        have hp := Wd.p2 j (by omega)
        have hp1 := hp.1
        have hp2 := hp.2.1
        clear hp
        by_cases hlt : j < m
        · have HP : Hid ((2 : Int) ^ (j + 1) = 2 * 2 ^ j) := Lib.hid (by rw [Int.pow_succ, Int.mul_comm])
          go_wp2
          go_round
          case rel => exact ⟨j + 1, by omega, by rw [HP.out], by go_num⟩
          case measure => simp [intOf]; omega
        · have hjm : j = m := by omega
          subst hjm
          generalize (2 : Int) ^ j = q at *
          have hr : 0 ≤ v % q ∧ v % q < q := ⟨Int.emod_nonneg _ (by omega), Int.emod_lt_of_pos _ (by omega)⟩
          have hr' : v % q ≤ v := by
            have := Int.emod_add_mul_ediv v q
            have h0 : 0 ≤ v / q := Int.ediv_nonneg hv.1 (by omega)
            have := Int.mul_nonneg (show 0 ≤ q by omega) h0
            omega
          by_cases hs : s = true
          · subst hs
            by_cases hc : q ≤ 2 * (v % q)
            · go_wp2_with (go_at_call 42; refine (word_any _ _ (by omega)).mono ?_; rintro e w' ⟨rfl, rfl⟩)
              go_ret
              exact ⟨ret_i (by rw [HW.out, if_pos ⟨by trivial, by omega⟩]), rfl⟩
            · go_wp2_with (go_at_call 42; refine (word_any _ _ (by omega)).mono ?_; rintro e w' ⟨rfl, rfl⟩)
              go_ret
              exact ⟨ret_i (by rw [HW.out, if_neg (fun h => by have := h.2; omega)]; omega), rfl⟩
          · have hs : s = false := by simpa using hs
            subst hs
            go_wp2_with (go_at_call 42; refine (word_any _ _ (by omega)).mono ?_; rintro e w' ⟨rfl, rfl⟩)
            go_ret
            exact ⟨ret_i (by rw [HW.out, if_neg (by simp)]; omega), rfl⟩
end Go.Proofs.YtlbdkcnbgdmpaaaGreatDoor

/- ShiftOf -/
/- The walks of the reference's Signed, ShiftOf and Part. -/
namespace Go.Proofs.YtlbdkcnbgdmpaaaGreatDoor
open Go.RowKit
set_option linter.unusedVariables false

set_option maxHeartbeats 400000 in
theorem signed_any (a : Int) (w : World) (ha : 0 ≤ a ∧ a < 4294967296) :
    Calls Tryz.prog 46 #[.int .u32 a] w fun e w' => e = .returned (.int .i64 (Wd.sg a)) ∧ w = w' := by
  by_cases h : a < 2147483648
  all_goals
    have h1 : Hid (Wd.sg a = if a < 2147483648 then a else a - 4294967296) := Lib.hid rfl
    go_enter Tryz.func46, Tryz.ntmps46
    go_wp2
    go_ret
  · exact ⟨ret_int (by rw [h1.out, if_pos h]), rfl⟩
  · exact ⟨ret_int (by rw [h1.out, if_neg (by omega)]), rfl⟩
theorem sg_tdiv (x y : Int) (hx : -2147483648 ≤ x ∧ x ≤ 2147483647) : -2147483648 ≤ x.tdiv y ∧ x.tdiv y ≤ 2147483648 := by
  have h1 : (x.tdiv y).natAbs ≤ x.natAbs := by rw [Int.natAbs_tdiv]; exact Nat.div_le_self _ _
  omega
set_option maxHeartbeats 400000 in
theorem shiftOf_any (k a n : Int) (w : World) (ha : 0 ≤ a ∧ a < 4294967296) (hn : 0 ≤ n ∧ n < 4294967296) :
    Calls Tryz.prog 32 #[.int .u8 k, .int .u32 a, .int .u32 n] w fun e w' => e = .returned (.int .u32 (Wd.shift k a n)) ∧ w = w' := by
  obtain ⟨m, q, r, hm, hm32, hq, hq', q1, q2, r1, hqr, hr⟩ := Wd.pw n
  have HQ := Lib.hid hq
  have Hm := Lib.hid hm
  have Hq := Lib.hid hq'
  have Hqr := Lib.hid hqr
  have Hr := Lib.hid hr
  clear hq hq' hqr hr
  go_enter Tryz.func32, Tryz.ntmps32
  go_wp2
  go_loop [7, 8] (fun s7 s8 => ∃ j : Nat, j ≤ m ∧ s7 = .int .i64 (2 ^ j) ∧ s8 = .int .u32 j) (fun _ i => m - (intOf i).toNat)
  case atStart => exact ⟨0, Nat.zero_le _, rfl, rfl⟩
  case round =>
    obtain ⟨j, hj, rfl, rfl⟩ := hrel
    have hp := Wd.p2' j (by omega)
    by_cases hlt : j < m
    · have HP : Hid ((2 : Int) ^ (j + 1) = 2 * 2 ^ j) := Lib.hid (by rw [Int.pow_succ, Int.mul_comm])
      go_wp2
      go_round
      case rel => exact ⟨j + 1, by omega, by rw [HP.out], by go_num⟩
      case measure => simp [intOf]; omega
    · have hjm : j = m := by omega
      have HJ : Hid ((2 : Int) ^ j = q) := Lib.hid (by rw [hjm]; exact Hq.out)
      rw [HJ.out] at *
      have hbd := Wd.rem_bd a q r q1 Hqr.out
      have hs := Wd.shl_of a q r q1 Hqr.out
      have HS := Lib.hid hs
      clear hs
      have R : Hid (4294967296 / q = r) := Hr
      have hd : 0 ≤ a / q ∧ a / q ≤ a := IntWalk.tdiv_le a q ha.1 q1
      have hrr : 4294967296 / q = r := Hr.out
      clear hp
      by_cases k1 : k = 60
      · subst k1
        go_wp2_with (first | (go_at_call 42; refine (word_any _ _ (by omega)).mono ?_; rintro e w' ⟨rfl, rfl⟩) | (go_at_call 46; refine (signed_any _ _ ha).mono ?_; rintro e w' ⟨rfl, rfl⟩))
        go_ret
        refine ⟨ret_i ?_, rfl⟩
        rw [Wd.shift_60 a n q HQ.out, HS.out]
        omega
      · by_cases k2 : k = 62
        · subst k2
          go_wp2_with (first | (go_at_call 42; refine (word_any _ _ (by omega)).mono ?_; rintro e w' ⟨rfl, rfl⟩) | (go_at_call 46; refine (signed_any _ _ ha).mono ?_; rintro e w' ⟨rfl, rfl⟩))
          go_ret
          refine ⟨ret_i ?_, rfl⟩
          rw [Wd.shift_62 a n q HQ.out]
          omega
        · by_cases k3 : k = 126
          · subst k3
            have hsg := Wd.sg_bd a ha.1 ha.2
            have FQ := Lib.hid (Wd.floor_q (Wd.sg a) q q1)
            have SQ := Lib.hid (Wd.shift_126 a n q HQ.out)
            have hbt := sg_tdiv (Wd.sg a) q hsg
            go_wp2_with (first | (go_at_call 42; refine (word_any _ _ (by omega)).mono ?_; rintro e w' ⟨rfl, rfl⟩) | (go_at_call 46; refine (signed_any _ _ ha).mono ?_; rintro e w' ⟨rfl, rfl⟩))
            all_goals
              go_ret
              refine ⟨ret_i ?_, rfl⟩
              simp only [bne_iff_ne, ne_eq, bne_eq_false_iff_eq] at *
              rw [SQ.out, FQ.out]
            · rw [if_pos ⟨by assumption, by assumption⟩]
            · rw [if_neg (fun h => h.2 (by assumption))]
            · rw [if_neg (by omega)]
          · have k1' : (k == 60) = false := by simpa using k1
            have k2' : (k == 62) = false := by simpa using k2
            have k3' : (k == 126) = false := by simpa using k3
            go_wp2_with fail
            go_ret
            exact ⟨ret_i (Wd.shift_no k a n k1 k2 k3).symm, rfl⟩

/-- a power that a part is by -/
theorem pw31 : ∀ k : Nat, k < 32 → 1 ≤ (2 : Int) ^ k ∧ (2 : Int) ^ k < 4294967296 := by decide +kernel
theorem shift_up (u : Int) (a : Int) (h : 0 ≤ u ∧ u < 32) : Wd.shift 62 a u = a / 2 ^ u.toNat ∧ Wd.shift 60 1 u = 2 ^ u.toNat := by
  have h1 : u % 32 = u := by omega
  have h2 := pw31 u.toNat (by omega)
  constructor
  · rw [Wd.shift_62 a u _ rfl, h1]
  · rw [Wd.shift_60 1 u _ rfl, h1, Int.one_mul]
    omega
set_option maxHeartbeats 400000 in
theorem part_any (v u b : Int) (w : World) (hv : 0 ≤ v ∧ v < 4294967296) (hu : 0 ≤ u ∧ u < 32) (hb : 0 ≤ b ∧ b < 32) :
    Calls Tryz.prog 20 #[.int .u32 v, .int .i64 u, .int .i64 b] w fun e w' => e = .returned (.int .i64 (v / 2 ^ u.toNat % 2 ^ b.toNat)) ∧ w = w' := by
  have h1 := (shift_up u v hu).1
  have h2 := (shift_up b v hb).2
  have h3 := pw31 b.toNat (by omega)
  have h4 := pw31 u.toNat (by omega)
  have h5 : 0 ≤ v / 2 ^ u.toNat ∧ v / 2 ^ u.toNat ≤ v := IntWalk.tdiv_le v _ hv.1 h4.1
  generalize (2 : Int) ^ u.toNat = p at *
  generalize (2 : Int) ^ b.toNat = q at *
  generalize v / p = x at *
  have H1 := Lib.hid h1
  have H2 := Lib.hid h2
  clear h1 h2
  go_enter Tryz.func20, Tryz.ntmps20
  go_wp2_with fail
  refine (shiftOf_any 62 v u _ hv (by omega)).mono ?_
  rintro e w' ⟨rfl, rfl⟩
  rw [H1.out]
  go_wp2_with fail
  refine (shiftOf_any 60 1 b _ (by omega) (by omega)).mono ?_
  rintro e w' ⟨rfl, rfl⟩
  rw [H2.out]
  go_wp2_with fail
  go_ret
  exact ⟨rfl, rfl⟩
end Go.Proofs.YtlbdkcnbgdmpaaaGreatDoor

/- Mem -/
/- Memory of the call's own, said block by block: what has turned between two worlds, rows of cells, a slice of words that is read. No program in sight. -/
namespace Go.Proofs.YtlbdkcnbgdmpaaaGreatDoor
open Go.RowKit Go.Deep

/-- BLOCK b's FIRST n CELLS, OF TYPE t, HOLD f; none is frozen; it may be longer. -/
def RowTo (w : World) (b : Nat) (t : TypeId) (n : Nat) (f : Nat → Value) : Prop :=
  ∃ c : Array Value, w.heap[b]? = some (.cells c t (0, 0)) ∧ n ≤ c.size ∧ ∀ i, i < n → c[i]? = some (f i)
namespace RowTo
variable {w : World} {b : Nat} {t : TypeId} {n : Nat} {f g : Nat → Value}
theorem of_row (h : w.rowIs b t n f) : RowTo w b t n f := by
  obtain ⟨c, h1, h2, h3⟩ := h
  exact ⟨c, h1, by omega, h3⟩
theorem cell (h : RowTo w b t n f) {i : Nat} (hi : i < n) : w.cell? ⟨b, i, none⟩ = some (f i) := by
  obtain ⟨c, hb, _, hc⟩ := h
  simp [World.cell?, hb, hc i hi]
theorem frozen (h : RowTo w b t n f) (i : Nat) : w.frozen? ⟨b, i, none⟩ = false := by
  obtain ⟨c, hb, _, _⟩ := h
  simp [World.frozen?, hb]
theorem lt (h : RowTo w b t n f) : b < w.heap.size := by
  obtain ⟨c, hb, _, _⟩ := h
  exact (Array.getElem?_eq_some_iff.1 hb).1
theorem congr (h : RowTo w b t n f) (e : ∀ i, i < n → f i = g i) : RowTo w b t n g := by
  obtain ⟨c, hb, hn, hc⟩ := h
  exact ⟨c, hb, hn, fun i hi => by rw [hc i hi, e i hi]⟩
theorem of_block {w' : World} (h : RowTo w b t n f) (e : w'.heap[b]? = w.heap[b]?) : RowTo w' b t n f := by
  obtain ⟨c, hb, hn, hc⟩ := h
  exact ⟨c, e.trans hb, hn, hc⟩
theorem set (h : RowTo w b t n f) (i : Nat) (v : Value) : RowTo (w.setCell ⟨b, i, none⟩ v) b t n (fun j => if j = i then v else f j) := by
  obtain ⟨c, hb, hn, hc⟩ := h
  refine ⟨c.setIfInBounds i v, ?_, by simpa using hn, fun j hj => ?_⟩
  · simp [World.setCell, Array.getElem?_modify, hb]
  · rw [Array.getElem?_setIfInBounds]
    by_cases e : j = i
    · subst e
      simp [show j < c.size by omega]
    · rw [if_neg (fun h => e h.symm)]
      show c[j]? = some (if j = i then v else f j)
      rw [if_neg e]
      exact hc j hj
theorem alloc (h : RowTo w b t n f) (o : Obj) : RowTo (w.alloc o) b t n f := h.of_block (Below.heap_alloc _ _ _ h.lt)
theorem drew (h : RowTo w b t n f) : RowTo w.drew b t n f := h
/-- what the call owns by appending -/
theorem of_owns {base cap : Nat} {xs : List Value} {gb : Nat} (h : w.ownsRow base t 1 (.slice (some ⟨gb, 0, none⟩) n cap) n xs) (hx : ∀ i, i < n → xs[i]? = some (f i)) : RowTo w gb t n f := by
  obtain ⟨hl, ⟨h0, _⟩ | ⟨g, cap', cur, hv, _, hh, hn, _, hsz, htk⟩⟩ := h
  · cases h0
  · cases hv
    refine ⟨cur, hh, by omega, fun i hi => ?_⟩
    have := hx i hi
    rw [← htk, List.getElem?_take_of_lt (by omega)] at this
    simpa using this
end RowTo

/-- BETWEEN w AND w' NO BLOCK OF w's HAS TURNED BUT THOSE OF S; the streams are as they were. -/
structure Keeps (S : Nat → Prop) (w w' : World) : Prop where
  os : w'.os = w.os
  tape : w'.tape = w.tape
  output : w'.output = w.output
  size : w.heap.size ≤ w'.heap.size
  block : ∀ k, k < w.heap.size → ¬ S k → w'.heap[k]? = w.heap[k]?

namespace Keeps
variable {S T : Nat → Prop} {w w' w'' : World}
theorem refl (S : Nat → Prop) (w : World) : Keeps S w w := ⟨rfl, rfl, rfl, Nat.le_refl _, fun _ _ _ => rfl⟩
theorem trans (h : Keeps S w w') (k : Keeps T w' w'') (hT : ∀ b, b < w.heap.size → T b → S b) : Keeps S w w'' :=
  ⟨k.os.trans h.os, k.tape.trans h.tape, k.output.trans h.output, Nat.le_trans h.size k.size,
    fun b hb hs => (k.block b (Nat.lt_of_lt_of_le hb h.size) (fun t => hs (hT b hb t))).trans (h.block b hb hs)⟩
theorem mono (h : Keeps S w w') (hT : ∀ b, b < w.heap.size → S b → T b) : Keeps T w w' := ⟨h.os, h.tape, h.output, h.size, fun b hb hn => h.block b hb (fun s => hn (hT b hb s))⟩
theorem drew (h : Keeps S w w') : Keeps S w w'.drew := ⟨h.os, h.tape, h.output, h.size, h.block⟩
theorem drewN (h : Keeps S w w') (n : Nat) : Keeps S w (w'.drewN n) := ⟨h.os, h.tape, h.output, h.size, h.block⟩
theorem alloc (h : Keeps S w w') (o : Obj) : Keeps S w (w'.alloc o) :=
  ⟨h.os, h.tape, h.output, Nat.le_trans h.size (by simp), fun b hb hs => (Below.heap_alloc _ _ _ (Nat.lt_of_lt_of_le hb h.size)).trans (h.block b hb hs)⟩
theorem setCell (h : Keeps S w w') {a : Addr} (ha : a.block < w.heap.size → S a.block) (v : Value) : Keeps S w (w'.setCell a v) :=
  ⟨h.os, h.tape, h.output, by simpa [World.setCell] using h.size, fun b hb hs => (Below.heap_setCell _ _ _ _ (fun e => by subst e; exact hs (ha hb))).trans (h.block b hb hs)⟩
theorem setRow (h : Keeps S w w') {g : Nat} (hg : g < w.heap.size → S g) (cs : Array Value) : Keeps S w (w'.setRow g cs) :=
  ⟨h.os, h.tape, h.output, by simpa [World.setRow] using h.size, fun b hb hs => (setRow_other w' g b cs (fun e => by subst e; exact hs (hg hb))).trans (h.block b hb hs)⟩
theorem grown (h : Keeps S w w') {row : Option Nat} (hg : w'.grownBy w'' row) (hr : ∀ k, row = some k → k < w.heap.size → S k) : Keeps S w w'' :=
  ⟨hg.os.trans h.os, hg.tape.trans h.tape, hg.output.trans h.output, Nat.le_trans h.size hg.size,
    fun b hb hs => (hg.block b (Nat.lt_of_lt_of_le hb h.size) (fun e => hs (hr b e.symm hb))).trans (h.block b hb hs)⟩
theorem below (h : Keeps S w w') {B : Nat} (hB : B ≤ w.heap.size) (hS : ∀ b, b < w.heap.size → S b → B ≤ b) : Below B w w' :=
  ⟨h.os, h.tape, h.output, h.size, fun k hk => h.block k (by omega) (fun s => by have := hS k (by omega) s; omega)⟩
theorem cell (h : Keeps S w w') {b : Nat} (o : Nat) (hb : b < w.heap.size) (hs : ¬ S b) : w'.cell? ⟨b, o, none⟩ = w.cell? ⟨b, o, none⟩ :=
  World.cell?_of_block (w := w) (a := ⟨b, o, none⟩) (h.block b hb hs)
theorem cell' (h : Keeps S w w') {b o : Nat} {v : Value} (hc : w.cell? ⟨b, o, none⟩ = some v) (hs : ¬ S b) : w'.cell? ⟨b, o, none⟩ = some v :=
  (h.cell o (World.block_lt_of_cell? w ⟨b, o, none⟩ hc) hs).trans hc
theorem row (h : Keeps S w w') {b : Nat} {t : TypeId} {n : Nat} {f : Nat → Value} (hr : w.rowIs b t n f) (hs : ¬ S b) : w'.rowIs b t n f := hr.of_block (h.block b hr.lt hs)
theorem rowTo (h : Keeps S w w') {b : Nat} {t : TypeId} {n : Nat} {f : Nat → Value} (hr : RowTo w b t n f) (hs : ¬ S b) : RowTo w' b t n f := hr.of_block (h.block b hr.lt hs)
theorem map (h : Keeps S w w') {b : Nat} {es : Array MapEntry} {c : Nat} (hm : w.heap[b]? = some (.map es c)) (hs : ¬ S b) : w'.heap[b]? = some (.map es c) :=
  (h.block b (Array.getElem?_eq_some_iff.1 hm).1 hs).trans hm
end Keeps

theorem Keeps.of_same {w w' : World} (h : w = w') (S : Nat → Prop) : Keeps S w w' := h ▸ Keeps.refl S w
theorem Keeps.of_drewN (S : Nat → Prop) (w : World) (n : Nat) : Keeps S w (w.drewN n) := (Keeps.refl S w).drewN n

/-- A row whose cells are overwritten from a place on. -/
theorem rowIs_setRow {w : World} {b : Nat} {t : TypeId} {n : Nat} {f : Nat → Value} (h : w.rowIs b t n f) (cs : Array Value) (hn : cs.size = n) (g : Nat → Value) (hg : ∀ i, i < n → cs[i]? = some (g i)) : (w.setRow b cs).rowIs b t n g := by
  obtain ⟨c, hb, _, _⟩ := h
  exact ⟨cs, setRow_heap w b c cs t _ hb, hn, hg⟩

theorem cell_alloc {w : World} {b o : Nat} {v : Value} (h : w.cell? ⟨b, o, none⟩ = some v) (x : Obj) : (w.alloc x).cell? ⟨b, o, none⟩ = some v :=
  ((Keeps.refl (fun _ => False) w).alloc x).cell' h (fun f => f)

/-- a slice of n cells that reads as f: empty, without room, or somewhere -/
def Reads (w : World) (A : Option Addr) (n cap : Nat) (f : Nat → Value) : Prop :=
  n ≤ cap ∧ (cap = 0 ∨ ∃ b o, A = some ⟨b, o, none⟩ ∧ b < w.heap.size ∧ ∀ i, i < n → w.cell? ⟨b, o + i, none⟩ = some (f i))
theorem Reads.keep {S : Nat → Prop} {w w' : World} {A : Option Addr} {n cap : Nat} {f : Nat → Value} (h : Reads w A n cap f) (k : Keeps S w w') (hS : ∀ b, b < w.heap.size → A.map (·.block) = some b → ¬ S b) : Reads w' A n cap f := by
  obtain ⟨h1, h2 | ⟨b, o, rfl, hb, hc⟩⟩ := h
  · exact ⟨h1, .inl h2⟩
  · exact ⟨h1, .inr ⟨b, o, rfl, Nat.lt_of_lt_of_le hb k.size, fun i hi => k.cell' (hc i hi) (hS b hb rfl)⟩⟩

/-- copy INTO A ROW OF THE CALL's OWN: cells k of the row, from off on, hold what the source's cells held; nothing else has turned. -/
theorem wpList_copy_rowIs {P : Program} {w : World} {ops : Array Oper} {rest : List Oper} {o : Oper} {a : Act} {Q : Exit → Act → World → Prop} (hgd : o.guard = none) (d s : Operand) (dT sT : TypeId)
    (ho : o.op = .call { callee := .builtin .copy, args := #[d, s], argTypes := #[dT, sT] }) (elem : TypeId) (hu : P.underlying dT = some (.slice elem)) (hsz : (P.info? elem).map (·.size) = some 1)
    (g off dLen dCap : Nat) (ad : Addr) (sLen sCap : Nat) (hd : a.eval d = .slice (some ⟨g, off, none⟩) dLen dCap) (hs : a.eval s = .slice (some ad) sLen sCap)
    (t : TypeId) (n : Nat) (f : Nat → Value) (hg : w.rowIs g t n f) (k : Nat) (c : Nat → Value) (hk : k = Nat.min sLen dLen)
    (hsrc : ∀ j, j < k → w.cell? (ad.add j) = some (c j)) (hfit : off + k ≤ n) (h1 : ∀ j, j < k → (c j).oneCell' = true)
    (h : ∀ w', w'.rowIs g t n (fun j => if off ≤ j ∧ j < off + k then c (j - off) else f j) → Keeps (· = g) w w' → wpList P ops Q rest (a.put o.dst (goInt k)) w') : wpList P ops Q (o :: rest) a w := by
  obtain ⟨cur, hb, hn, hc⟩ := hg
  let cs : List Value := (List.range k).map c
  have hl : cs.length = k := by simp [cs]
  have hat : ∀ j v, cs[j]? = some v → j < k ∧ v = c j := by
    intro j v hv
    have hj : j < k := by rw [← hl]; exact (List.getElem?_eq_some_iff.1 hv).1
    refine ⟨hj, ?_⟩
    simp [cs, List.getElem?_range hj] at hv
    exact hv.symm
  refine wpList_copy_own hgd d s dT sT ho elem hu hsz g off dLen dCap ad sLen sCap hd hs cur t hb cs (by rw [hl]; exact hk)
    (fun j v hv => by obtain ⟨hj, rfl⟩ := hat j v hv; exact hsrc j hj) (by rw [hl, hn]; exact hfit) (fun v hv => by
      obtain ⟨j, hj⟩ := List.getElem?_of_mem hv
      obtain ⟨hj', rfl⟩ := hat j v hj; exact h1 j hj') ?_
  rw [hl]
  refine h _ ?_ ((Keeps.refl (· = g) w).setRow (fun _ => rfl) _)
  have hcur : cur.toList.length = n := by simpa using hn
  refine ⟨_, setRow_heap w g cur _ t _ hb, by simp [hl]; omega, fun i hi => ?_⟩
  rw [List.getElem?_toArray]
  have hti : (cur.toList.take off).length = off := by rw [List.length_take]; omega
  by_cases h1 : i < off
  · rw [List.getElem?_append_left (by rw [hti]; exact h1), List.getElem?_take_of_lt h1]
    simp only []
    rw [if_neg (by omega)]
    simpa using hc i hi
  · rw [List.getElem?_append_right (by rw [hti]; omega), hti]
    by_cases h2 : i < off + k
    · rw [List.getElem?_append_left (by rw [hl]; omega)]
      simp only []
      rw [if_pos ⟨by omega, h2⟩]
      simp [cs, List.getElem?_range (show i - off < k by omega)]
    · rw [List.getElem?_append_right (by rw [hl]; omega), hl, List.getElem?_drop]
      simp only []
      rw [if_neg (by omega), show off + k + (i - off - k) = i by omega]
      simpa using hc i hi

theorem cells_new (w : World) (cs : List Value) (T : TypeId) (j : Nat) (u : Value) (h : cs[j]? = some u) : (w.alloc (.cells cs.toArray T)).cell? ((⟨w.heap.size, 0, none⟩ : Addr).add j) = some u := by
  rw [Addr.add_lit, Nat.zero_add]
  have hb := blk_alloc_new w (.cells cs.toArray T)
  unfold World.cell?
  rw [hb]
  simpa using h
theorem frozen_of_block {w : World} {b : Nat} {cs : Array Value} {T : TypeId} (h : w.heap[b]? = some (.cells cs T (0, 0))) (o : Nat) : w.frozen? ⟨b, o, none⟩ = false := by
  simp [World.frozen?, h]
theorem set_block {w : World} {b : Nat} {cs : Array Value} {T : TypeId} {fz : Nat × Nat} (h : w.heap[b]? = some (.cells cs T fz)) (o : Nat) (v : Value) : (w.setCell ⟨b, o, none⟩ v).heap[b]? = some (.cells (cs.setIfInBounds o v) T fz) := by
  simp [World.setCell, Array.getElem?_modify, h]
theorem owns_slice {w : World} {base : Nat} {e : TypeId} {size : Nat} {v : Value} {n : Nat} {xs : List Value} (h : w.ownsRow base e size v n xs) : ∃ A cap, v = .slice A n cap := by
  rcases h.2 with ⟨h1, h2⟩ | ⟨g, cap, cur, h1, _⟩
  · exact ⟨none, 0, by rw [h1, h2]⟩
  · exact ⟨_, _, h1⟩
theorem owns_keep {w w' : World} {S : Nat → Prop} {base : Nat} {e : TypeId} {size : Nat} {v : Value} {n : Nat} {xs : List Value} (h : w.ownsRow base e size v n xs) (k : Keeps S w w') (hs : ∀ g, v.ownBlock = some g → ¬ S g) : w'.ownsRow base e size v n xs := by
  refine ⟨h.1, ?_⟩
  rcases h.2 with h | ⟨g, cap, cur, e1, e2, e3, e4⟩
  · exact .inl h
  · exact .inr ⟨g, cap, cur, e1, e2, (k.block g (Array.getElem?_eq_some_iff.1 e3).1 (hs g (by rw [e1]; rfl))).trans e3, e4⟩
/-- a cell that is set changes no other block -/
theorem Keeps.one (w : World) (b o : Nat) (v : Value) : Keeps (· = b) w (w.setCell ⟨b, o, none⟩ v) := Keeps.setCell (S := (· = b)) (Keeps.refl _ w) (a := ⟨b, o, none⟩) (fun _ => rfl) v
theorem cells5 {w : World} {x : Nat} {T : TypeId} {a b c d e : Value} (h : w.heap[x]? = some (.cells #[a, b, c, d, e] T (0, 0))) :
    (w.cell? ⟨x, 0, none⟩ = some a ∧ w.cell? ⟨x, 0 + 1, none⟩ = some b ∧ w.cell? ⟨x, 0 + 2, none⟩ = some c ∧ w.cell? ⟨x, 0 + 3, none⟩ = some d ∧ w.cell? ⟨x, 0 + 4, none⟩ = some e) ∧
    (w.frozen? ⟨x, 0, none⟩ = false ∧ w.frozen? ⟨x, 0 + 1, none⟩ = false ∧ w.frozen? ⟨x, 0 + 2, none⟩ = false ∧ w.frozen? ⟨x, 0 + 3, none⟩ = false ∧ w.frozen? ⟨x, 0 + 4, none⟩ = false) := by
  refine ⟨⟨?_, ?_, ?_, ?_, ?_⟩, ?_, ?_, ?_, ?_, ?_⟩ <;> simp [World.cell?, World.frozen?, h]
/-- a struct of five cells is stored -/
theorem set5 {w : World} {x : Nat} {T : TypeId} {a b c d e a' b' c' d' e' : Value} (h : w.heap[x]? = some (.cells #[a, b, c, d, e] T (0, 0))) :
    (((((w.setCell ⟨x, 0, none⟩ a').setCell ⟨x, 1, none⟩ b').setCell ⟨x, 2, none⟩ c').setCell ⟨x, 3, none⟩ d').setCell ⟨x, 4, none⟩ e').heap[x]? = some (.cells #[a', b', c', d', e'] T (0, 0)) ∧
      Keeps (· = x) w (((((w.setCell ⟨x, 0, none⟩ a').setCell ⟨x, 1, none⟩ b').setCell ⟨x, 2, none⟩ c').setCell ⟨x, 3, none⟩ d').setCell ⟨x, 4, none⟩ e') := by
  refine ⟨?_, Keeps.trans (Keeps.trans (Keeps.trans (Keeps.trans (Keeps.one _ _ _ _) (Keeps.one _ _ _ _) (fun _ _ h => h)) (Keeps.one _ _ _ _) (fun _ _ h => h)) (Keeps.one _ _ _ _) (fun _ _ h => h)) (Keeps.one _ _ _ _) (fun _ _ h => h)⟩
  have h1 := set_block (set_block (set_block (set_block (set_block h 0 a') 1 b') 2 c') 3 d') 4 e'
  simpa using h1
end Go.Proofs.YtlbdkcnbgdmpaaaGreatDoor
