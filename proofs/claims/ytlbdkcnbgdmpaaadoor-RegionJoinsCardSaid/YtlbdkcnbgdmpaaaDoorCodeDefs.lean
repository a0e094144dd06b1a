
/- Instructions, said plainly: the table of operations, decoding. No program in sight. -/
import Derived.RowKit
namespace Go.Proofs.YtlbdkcnbgdmpaaaDoor
namespace Cd
/-- an operation's name, major number, minor number, fields, order of text, kind (0 sum, 1 branch, 2 load, 3 store, 4 trap, 5 none) -/
structure Row where
  name : List UInt8
  major : Nat
  minor : Nat
  fields : List UInt8
  order : List UInt8
  kd : Nat
def row : Nat → Row
  | 1 => ⟨[115, 108, 108], 0, 0, [84, 68, 97], [68, 84, 97], 0⟩
  | 2 => ⟨[115, 114, 108], 0, 2, [84, 68, 97], [68, 84, 97], 0⟩
  | 3 => ⟨[115, 114, 97], 0, 3, [84, 68, 97], [68, 84, 97], 0⟩
  | 4 => ⟨[115, 108, 108, 118], 0, 4, [83, 84, 68], [68, 84, 83], 0⟩
  | 5 => ⟨[115, 114, 108, 118], 0, 6, [83, 84, 68], [68, 84, 83], 0⟩
  | 6 => ⟨[115, 114, 97, 118], 0, 7, [83, 84, 68], [68, 84, 83], 0⟩
  | 7 => ⟨[106, 114], 0, 8, [83], [83], 1⟩
  | 8 => ⟨[106, 97, 108, 114], 0, 9, [83, 68], [68, 83], 1⟩
  | 9 => ⟨[115, 121, 115, 99, 97, 108, 108], 0, 12, [], [], 4⟩
  | 10 => ⟨[98, 114, 101, 97, 107], 0, 13, [], [], 4⟩
  | 11 => ⟨[109, 102, 104, 105], 0, 16, [68], [68], 0⟩
  | 12 => ⟨[109, 116, 104, 105], 0, 17, [83], [83], 0⟩
  | 13 => ⟨[109, 102, 108, 111], 0, 18, [68], [68], 0⟩
  | 14 => ⟨[109, 116, 108, 111], 0, 19, [83], [83], 0⟩
  | 15 => ⟨[109, 117, 108, 116], 0, 24, [83, 84], [83, 84], 0⟩
  | 16 => ⟨[109, 117, 108, 116, 117], 0, 25, [83, 84], [83, 84], 0⟩
  | 17 => ⟨[100, 105, 118], 0, 26, [83, 84], [83, 84], 0⟩
  | 18 => ⟨[100, 105, 118, 117], 0, 27, [83, 84], [83, 84], 0⟩
  | 19 => ⟨[97, 100, 100], 0, 32, [83, 84, 68], [68, 83, 84], 0⟩
  | 20 => ⟨[97, 100, 100, 117], 0, 33, [83, 84, 68], [68, 83, 84], 0⟩
  | 21 => ⟨[115, 117, 98], 0, 34, [83, 84, 68], [68, 83, 84], 0⟩
  | 22 => ⟨[115, 117, 98, 117], 0, 35, [83, 84, 68], [68, 83, 84], 0⟩
  | 23 => ⟨[97, 110, 100], 0, 36, [83, 84, 68], [68, 83, 84], 0⟩
  | 24 => ⟨[111, 114], 0, 37, [83, 84, 68], [68, 83, 84], 0⟩
  | 25 => ⟨[120, 111, 114], 0, 38, [83, 84, 68], [68, 83, 84], 0⟩
  | 26 => ⟨[110, 111, 114], 0, 39, [83, 84, 68], [68, 83, 84], 0⟩
  | 27 => ⟨[115, 108, 116], 0, 42, [83, 84, 68], [68, 83, 84], 0⟩
  | 28 => ⟨[115, 108, 116, 117], 0, 43, [83, 84, 68], [68, 83, 84], 0⟩
  | 29 => ⟨[106], 2, 0, [106], [106], 1⟩
  | 30 => ⟨[106, 97, 108], 3, 0, [106], [106], 1⟩
  | 31 => ⟨[98, 101, 113], 4, 0, [83, 84, 105], [83, 84, 110], 1⟩
  | 32 => ⟨[98, 110, 101], 5, 0, [83, 84, 105], [83, 84, 110], 1⟩
  | 33 => ⟨[98, 108, 101, 122], 6, 0, [83, 105], [83, 110], 1⟩
  | 34 => ⟨[98, 103, 116, 122], 7, 0, [83, 105], [83, 110], 1⟩
  | 35 => ⟨[97, 100, 100, 105], 8, 0, [83, 84, 105], [84, 83, 110], 0⟩
  | 36 => ⟨[97, 100, 100, 105, 117], 9, 0, [83, 84, 105], [84, 83, 110], 0⟩
  | 37 => ⟨[115, 108, 116, 105], 10, 0, [83, 84, 105], [84, 83, 110], 0⟩
  | 38 => ⟨[115, 108, 116, 105, 117], 11, 0, [83, 84, 105], [84, 83, 110], 0⟩
  | 39 => ⟨[97, 110, 100, 105], 12, 0, [83, 84, 105], [84, 83, 117], 0⟩
  | 40 => ⟨[111, 114, 105], 13, 0, [83, 84, 105], [84, 83, 117], 0⟩
  | 41 => ⟨[120, 111, 114, 105], 14, 0, [83, 84, 105], [84, 83, 117], 0⟩
  | 42 => ⟨[108, 117, 105], 15, 0, [84, 105], [84, 117], 0⟩
  | 43 => ⟨[109, 102, 99, 48], 16, 0, [84, 68], [84, 68], 4⟩
  | 44 => ⟨[109, 116, 99, 48], 16, 4, [84, 68], [84, 68], 4⟩
  | 45 => ⟨[101, 114, 101, 116], 16, 16, [], [], 4⟩
  | 46 => ⟨[108, 98], 32, 0, [83, 84, 105], [84, 109], 2⟩
  | 47 => ⟨[108, 104], 33, 0, [83, 84, 105], [84, 109], 2⟩
  | 48 => ⟨[108, 119], 35, 0, [83, 84, 105], [84, 109], 2⟩
  | 49 => ⟨[108, 98, 117], 36, 0, [83, 84, 105], [84, 109], 2⟩
  | 50 => ⟨[108, 104, 117], 37, 0, [83, 84, 105], [84, 109], 2⟩
  | 51 => ⟨[115, 98], 40, 0, [83, 84, 105], [84, 109], 3⟩
  | 52 => ⟨[115, 104], 41, 0, [83, 84, 105], [84, 109], 3⟩
  | 53 => ⟨[115, 119], 43, 0, [83, 84, 105], [84, 109], 3⟩
  | _ => ⟨[], 0, 0, [], [], 5⟩
/-- a kind's text -/
def kindS : Nat → List UInt8
  | 0 => [115, 117, 109]
  | 1 => [98, 114, 97, 110, 99, 104]
  | 2 => [108, 111, 97, 100]
  | 3 => [115, 116, 111, 114, 101]
  | 4 => [116, 114, 97, 112]
  | _ => []
/-- the kind that Kind tells: 0 is a trap -/
def kd (op : Nat) : Nat := if op = 0 then 4 else (row op).kd

/-- a field's place: how far up, how many bits -/
def up (f : UInt8) : Nat := if f = 83 then 21 else if f = 84 then 16 else if f = 68 then 11 else if f = 97 then 6 else 0
def wd (f : UInt8) : Nat := if f = 83 then 5 else if f = 84 then 5 else if f = 68 then 5 else if f = 97 then 5 else if f = 105 then 16 else 26
/-- bits of a word: so many from a place on -/
def part (w : Int) (u n : Nat) : Int := w / 2 ^ u % 2 ^ n
def has (l : List UInt8) (c : UInt8) : Bool := l.contains c
/-- what stands in the S field, and at the end, where these are none of the operation's fields -/
def low (r : Row) : Int := if r.major = 0 then r.minor else if r.major = 16 ∧ r.minor = 16 then 24 else 0
def mid (r : Row) : Int := if r.major = 16 then r.minor else 0
/-- is a word of this row? -/
def isRow (w : Int) (r : Row) : Bool :=
  decide (part w 26 6 = r.major) && (has r.fields 106 || ((has r.fields 83 || decide (part w 21 5 = mid r)) && (has r.fields 84 || decide (part w 16 5 = 0)) &&
    (has r.fields 105 || ((has r.fields 68 || decide (part w 11 5 = 0)) && (has r.fields 97 || decide (part w 6 5 = 0)) && decide (part w 0 6 = low r)))))
/-- an instruction -/
structure Ins where
  op : Nat
  S : Int
  T : Int
  D : Int
  imm : Int
def none : Ins := ⟨0, 0, 0, 0, 0⟩
/-- the instruction of an operation that a word is -/
def insOf (op : Nat) (w : Int) : Ins :=
  let f := (row op).fields
  ⟨op, if has f 83 then part w 21 5 else 0, if has f 84 then part w 16 5 else 0, if has f 68 then part w 11 5 else 0,
    if has f 97 then part w 6 5 else if has f 105 then part w 0 16 else if has f 106 then part w 0 26 else 0⟩
/-- the first operation from one on that a word is of -/
def find (w : Int) : Nat → Nat → Ins
  | 0, _ => none
  | n + 1, op => if isRow w (row op) then insOf op w else find w n (op + 1)
def decOf (w : Int) : Ins := find w 53 1

theorem find_step (w : Int) (op : Nat) (h : op < 54) : find w (54 - op) op = if isRow w (row op) then insOf op w else find w (54 - (op + 1)) (op + 1) := by
  rw [show 54 - op = (54 - (op + 1)) + 1 by omega]
  rfl
theorem part_rng (w : Int) (u n : Nat) : 0 ≤ part w u n ∧ part w u n < 2 ^ n := by
  have h : (0 : Int) < 2 ^ n := Int.pow_pos (by decide)
  exact ⟨Int.emod_nonneg _ (by omega), Int.emod_lt_of_pos _ h⟩
/-- the ranges of an instruction's fields -/
structure Ok (i : Ins) : Prop where
  op : i.op < 54
  S : 0 ≤ i.S ∧ i.S < 32
  T : 0 ≤ i.T ∧ i.T < 32
  D : 0 ≤ i.D ∧ i.D < 32
  imm : 0 ≤ i.imm ∧ i.imm < 67108864
theorem ok_none : Ok none := ⟨by decide, by decide, by decide, by decide, by decide⟩
theorem ok_ins (op : Nat) (w : Int) (h : op < 54) : Ok (insOf op w) := by
  have h1 := part_rng w 21 5
  have h2 := part_rng w 16 5
  have h3 := part_rng w 11 5
  have h4 := part_rng w 6 5
  have h5 := part_rng w 0 16
  have h6 := part_rng w 0 26
  simp only [Int.reducePow] at h1 h2 h3 h4 h5 h6
  constructor
  · exact h
  · simp only [insOf]; split <;> omega
  · simp only [insOf]; split <;> omega
  · simp only [insOf]; split <;> omega
  · simp only [insOf]; split
    · omega
    · split
      · omega
      · split <;> omega
theorem ok_find (w : Int) : ∀ n op, op + n ≤ 54 → Ok (find w n op)
  | 0, _, _ => ok_none
  | n + 1, op, h => by
    unfold find
    split
    · exact ok_ins op w (by omega)
    · exact ok_find w n (op + 1) (by omega)
theorem ok_dec (w : Int) : Ok (decOf w) := ok_find w 53 1 (by omega)

/-! and, not: by parts -/
theorem and_split (k x y c d : Nat) (hy : y < 2 ^ k) (hd : d < 2 ^ k) : (x * 2 ^ k + y) &&& (c * 2 ^ k + d) = (x &&& c) * 2 ^ k + (y &&& d) := by
  apply Nat.eq_of_testBit_eq
  intro i
  have hyd : y &&& d < 2 ^ k := Nat.and_lt_two_pow _ hd
  rw [Nat.testBit_and, Nat.mul_comm x, Nat.mul_comm c, Nat.mul_comm (x &&& c), Nat.testBit_two_pow_mul_add _ hy, Nat.testBit_two_pow_mul_add _ hd, Nat.testBit_two_pow_mul_add _ hyd]
  split
  · rw [Nat.testBit_and]
  · rw [Nat.testBit_and]
theorem and_ones (n x : Nat) (h : x < 2 ^ n) : x &&& (2 ^ n - 1) = x := by
  rw [Nat.and_two_pow_sub_one_eq_mod, Nat.mod_eq_of_lt h]
end Cd
end Go.Proofs.YtlbdkcnbgdmpaaaDoor
