import Derived.Test.YtlmnmncdoiealaaGreatDoorSumsD
import Derived.Deep.QuietTactic
import Derived.BigQuiet
import Derived.Deep.DeepCutAuto
import Derived.WalkLawsBesides
import Derived.Lib.Hide
import Derived.Test.YtlmnmncdoiealaaGreatDoorFacts
import Derived.Test.YtlmnmncdoiealaaGreatDoorKaz03
import Derived.Laws.BitsAllLaws
import Derived.Test.YtlmnmncdoiealaaGreatDoorIrOp
import Derived.Test.YtlmnmncdoiealaaGreatDoorKaz02
import Derived.Laws.Rows

/- SumsOfD -/
/- The walks of the reference's IsSigned, LessOf, MulOf, DivOf. -/
namespace Go.Proofs.YtlmnmncdoiealaaGreatDoor
open Go.RowKit
set_option linter.unusedVariables false

theorem quiet_same {P : Program} {f : FuncId} {args : Array Value} {w : World} {n : Nat} {v : Value}
    (h : Calls P f args (w.drewN n) fun e w' => e = .returned v ∧ w.drewN n = w') : Calls P f args (w.drewN n) fun e w'' => e = .returned v ∧ ∃ m, w'' = w.drewN m :=
  h.mono fun _ _ ⟨he, hm⟩ => ⟨he, n, hm.symm⟩
theorem i64_rng (x : Int) : -9223372036854775808 ≤ IntKind.i64.wrap x ∧ IntKind.i64.wrap x ≤ 9223372036854775807 := by
  rw [IntKind.wrap_i64]; omega
theorem sg_tmod (x y : Int) (hx : -2147483648 ≤ x ∧ x ≤ 2147483647) : -2147483648 ≤ x.tmod y ∧ x.tmod y ≤ 2147483647 := by
  have h1 : (x.tmod y).natAbs ≤ x.natAbs := by rw [Int.natAbs_tmod]; exact Nat.mod_le _ _
  have h2 : 0 ≤ x → 0 ≤ x.tmod y := fun h => Int.tmod_nonneg y h
  have h3 : 0 ≤ -x → 0 ≤ (-x).tmod y := fun h => Int.tmod_nonneg y h
  rw [Int.neg_tmod] at h3
  omega
end Go.Proofs.YtlmnmncdoiealaaGreatDoor

/- RSum -/
/- The walks of the reference's bits, plus, Bit, SumOf, at the kinds of ops. -/
namespace Go.Proofs.YtlmnmncdoiealaaGreatDoor
open Go.RowKit Go.Deep
set_option linter.unusedVariables false
set_option linter.unusedSimpArgs false

/-- bit by bit, the lowest first: what 00, 01, 10, 11 become -/
def bitF (t : Nat) : Nat → Nat → Nat → Nat
  | 0, _, _ => 0
  | n + 1, a, b => t / 2 ^ (2 * (a % 2) + b % 2) % 2 + 2 * bitF t n (a / 2) (b / 2)
theorem bitF_test (t : Nat) : ∀ n a b i, (bitF t n a b).testBit i = (decide (i < n) && decide (t / 2 ^ (2 * (a / 2 ^ i % 2) + b / 2 ^ i % 2) % 2 = 1))
  | 0, a, b, i => by simp [bitF]
  | n + 1, a, b, 0 => by
    unfold bitF
    rw [Nat.testBit_zero]
    generalize bitF t n (a / 2) (b / 2) = g
    simp only [Nat.pow_zero, Nat.div_one, Nat.zero_lt_succ, decide_true, Bool.true_and]
    generalize t / 2 ^ (2 * (a % 2) + b % 2) = c
    rw [show (c % 2 + 2 * g) % 2 = c % 2 by omega]
  | n + 1, a, b, i + 1 => by
    unfold bitF
    rw [Nat.testBit_succ]
    have ih := bitF_test t n (a / 2) (b / 2) i
    generalize bitF t n (a / 2) (b / 2) = g at *
    generalize t / 2 ^ (2 * (a % 2) + b % 2) = c
    rw [show (c % 2 + 2 * g) / 2 = g by omega, ih, Nat.div_div_eq_div_mul, Nat.div_div_eq_div_mul, show 2 * 2 ^ i = 2 ^ (i + 1) by rw [Nat.pow_succ, Nat.mul_comm]]
    simp only [Nat.add_lt_add_iff_right]
theorem test_high {a i : Nat} (ha : a < 4294967296) (h : ¬ i < 32) : a.testBit i = false := by
  have h2 : 2 ^ 32 ≤ 2 ^ i := Nat.pow_le_pow_right (by omega) (by omega)
  exact Nat.testBit_lt_two_pow (by omega)
theorem bit_of (a i : Nat) : a.testBit i = decide (a / 2 ^ i % 2 = 1) := Nat.testBit_eq_decide_div_mod_eq
theorem bitF_eq (t : Nat) (f : Nat → Nat → Nat) (g : Bool → Bool → Bool) (hf : ∀ a b i, i < 32 → (f a b).testBit i = g (a.testBit i) (b.testBit i)) (hlt : ∀ a b, a < 4294967296 → b < 4294967296 → f a b < 4294967296)
    (ht : ∀ x y : Fin 2, decide (t / 2 ^ (2 * x.val + y.val) % 2 = 1) = g (decide (x.val = 1)) (decide (y.val = 1))) (a b : Nat) (ha : a < 4294967296) (hb : b < 4294967296) : bitF t 32 a b = f a b := by
  apply Nat.eq_of_testBit_eq
  intro i
  rw [bitF_test]
  by_cases hi : i < 32
  · rw [hf a b i hi, bit_of a, bit_of b, decide_eq_true hi, Bool.true_and]
    exact ht ⟨a / 2 ^ i % 2, Nat.mod_lt _ (by omega)⟩ ⟨b / 2 ^ i % 2, Nat.mod_lt _ (by omega)⟩
  · rw [test_high (hlt a b ha hb) hi, decide_eq_false hi, Bool.false_and]
theorem bitF_and (a b : Nat) (ha : a < 4294967296) (hb : b < 4294967296) : bitF 8 32 a b = a &&& b :=
  bitF_eq 8 (· &&& ·) (· && ·) (fun a b i _ => Nat.testBit_and a b i) (fun a b _ hb => Nat.and_lt_two_pow (n := 32) a hb) (by decide) a b ha hb
theorem bitF_or (a b : Nat) (ha : a < 4294967296) (hb : b < 4294967296) : bitF 14 32 a b = a ||| b :=
  bitF_eq 14 (· ||| ·) (· || ·) (fun a b i _ => Nat.testBit_or a b i) (fun a b ha hb => Nat.or_lt_two_pow (n := 32) ha hb) (by decide) a b ha hb
theorem bitF_xor (a b : Nat) (ha : a < 4294967296) (hb : b < 4294967296) : bitF 6 32 a b = a ^^^ b :=
  bitF_eq 6 (· ^^^ ·) (fun x y => x ^^ y) (fun a b i _ => Nat.testBit_xor a b i) (fun a b ha hb => Nat.xor_lt_two_pow (n := 32) ha hb) (by decide) a b ha hb
theorem bitF_nor (a b : Nat) (ha : a < 4294967296) (hb : b < 4294967296) : bitF 1 32 a b = 4294967295 ^^^ (a ||| b) :=
  bitF_eq 1 (fun a b => 4294967295 ^^^ (a ||| b)) (fun x y => !(x || y)) (fun a b i hi => by
    rw [Nat.testBit_xor, Nat.testBit_or, show (4294967295 : Nat) = 2 ^ 32 - 1 from rfl, Nat.testBit_two_pow_sub_one, decide_eq_true hi, Bool.true_xor]) (fun a b ha hb => Nat.xor_lt_two_pow (n := 32) (by decide) (Nat.or_lt_two_pow (n := 32) ha hb)) (by decide) a b ha hb
namespace Cp
theorem W_or (a b : Int) (ha : W a) (hb : W b) : W (bits .or .u32 a b) := by
  have h := Nat.or_lt_two_pow (n := 32) (x := a.toNat) (y := b.toNat) (by have := ha.1; have := ha.2; omega) (by have := hb.1; have := hb.2; omega)
  rw [u32_or a b ha.1 ha.2 hb.1 hb.2]
  unfold W
  omega
/-- bits by a table, of words -/
def bitT (t : Nat) (a b : Int) : Int := bitF t 32 a.toNat b.toNat
theorem bitT_and (a b : Int) (ha : W a) (hb : W b) : bitT 8 a b = bits .and .u32 a b := by
  rw [u32_and a b ha.1 ha.2 hb.1 hb.2]
  unfold bitT
  rw [bitF_and _ _ (by have := ha.1; have := ha.2; omega) (by have := hb.1; have := hb.2; omega)]
theorem bitT_or (a b : Int) (ha : W a) (hb : W b) : bitT 14 a b = bits .or .u32 a b := by
  rw [u32_or a b ha.1 ha.2 hb.1 hb.2]
  unfold bitT
  rw [bitF_or _ _ (by have := ha.1; have := ha.2; omega) (by have := hb.1; have := hb.2; omega)]
theorem bitT_xor (a b : Int) (ha : W a) (hb : W b) : bitT 6 a b = bits .xor .u32 a b := by
  rw [u32_xor a b ha.1 ha.2 hb.1 hb.2]
  unfold bitT
  rw [bitF_xor _ _ (by have := ha.1; have := ha.2; omega) (by have := hb.1; have := hb.2; omega)]
theorem bitT_nor (a b : Int) (ha : W a) (hb : W b) : bitT 1 a b = bits .xor .u32 4294967295 (bits .or .u32 a b) := by
  have h := W_or a b ha hb
  rw [u32_xor _ _ (by decide) (by decide) h.1 h.2, u32_or a b ha.1 ha.2 hb.1 hb.2]
  unfold bitT
  rw [bitF_nor _ _ (by have := ha.1; have := ha.2; omega) (by have := hb.1; have := hb.2; omega)]
  rfl
end Cp
theorem pw33 : ∀ k : Fin 33, 1 ≤ 2 ^ k.val ∧ 2 ^ k.val ≤ 4294967296 ∧ (k.val < 32 → 2 ^ k.val ≤ 2147483648) := by decide +kernel
theorem bitF_lt (t : Nat) : ∀ n a b, bitF t n a b < 2 ^ n
  | 0, a, b => by simp [bitF]
  | n + 1, a, b => by
    have ih := bitF_lt t n (a / 2) (b / 2)
    unfold bitF
    rw [Nat.pow_succ]
    omega
theorem bitF_round (t i o p x y R : Nat) (hi : i < 32) (h : o + p * bitF t (32 - i) x y = R) : o + p * (t / 2 ^ (2 * (x % 2) + y % 2) % 2) + 2 * p * bitF t (32 - (i + 1)) (x / 2) (y / 2) = R := by
  rw [show 32 - i = 32 - (i + 1) + 1 by omega] at h
  unfold bitF at h
  rw [← h, Nat.mul_add, Nat.add_assoc, ← Nat.mul_assoc p 2, Nat.mul_comm p 2]
theorem pow_more (j t : Nat) : t / 2 ^ j / 2 = t / 2 ^ (j + 1) := by rw [Nat.div_div_eq_div_mul, Nat.pow_succ]
def bitI (b : Bool) : Int := if b = true then 1 else 0
end Go.Proofs.YtlmnmncdoiealaaGreatDoor

/- ResDefs -/
/- What the reference's ResultOf answers, as it lies. -/
namespace Go.Proofs.YtlmnmncdoiealaaGreatDoor
open Go.RowKit Go.Deep
set_option linter.unusedVariables false
set_option linter.unusedSimpArgs false

/-- registers' cells; a result's cells -/
def regL (X : Nat → Int) : List Value := (List.range 64).map fun k => .int .u32 (X k)
def resC (r : Ir.RRes) : Array Value := #[.int .u32 r.v, .int .u32 r.addr, .bool r.trap, .bool r.leave]
theorem regs_at (w : World) (X : Nat → Int) (T : TypeId) (i : Nat) (hi : i < 64) : (w.alloc (.cells (regL X).toArray T)).cell? ⟨w.heap.size, i, none⟩ = some (.int .u32 (X i)) := by
  unfold World.cell?
  rw [blk_alloc_new]
  simp [regL, hi]
theorem cell_at {w : World} {b : Nat} {cs : Array Value} {T : TypeId} {v : Value} (h : w.heap[b]? = some (.cells cs T (0, 0))) (i : Nat) (e : cs[i]? = some v := by rfl) : w.cell? ⟨b, i, none⟩ = some v := by
  unfold World.cell?
  rw [h]
  exact e
/-- what ResultOf answers -/
def ResIs (w : World) (r : Ir.RRes) (e : Ending) (w' : World) : Prop := e = .returned (.agg (resC r)) ∧ Keeps (fun _ => False) w w'
end Go.Proofs.YtlmnmncdoiealaaGreatDoor

/- RefMach -/
/- The reference's machine as it lies; the walks of its memory's Copy, of NewMachine. -/
namespace Go.Proofs.YtlmnmncdoiealaaGreatDoor
open Go.RowKit Go.Deep
set_option linter.unusedVariables false
set_option linter.unusedSimpArgs false

theorem Wb_be (m : Nat → Int) (j r : Nat) (hr : r < 4) (h : ∀ i, i < 4 → 0 ≤ m (4 * j + i) ∧ m (4 * j + i) < 256) : Wb (be m (4 * j) 4) r = m (4 * j + r) := by
  have h0 := h 0 (by omega)
  have h1 := h 1 (by omega)
  have h2 := h 2 (by omega)
  have h3 := h 3 (by omega)
  rw [Nat.add_zero] at h0
  rw [be4]
  unfold Wb
  rcases (show r = 0 ∨ r = 1 ∨ r = 2 ∨ r = 3 by omega) with rfl | rfl | rfl | rfl
  · show _ / (16777216 : Int) % 256 = m (4 * j)
    omega
  · show _ / (65536 : Int) % 256 = _
    omega
  · show _ / (256 : Int) % 256 = _
    omega
  · show _ / (1 : Int) % 256 = _
    omega
theorem ramOf_be (m : Nat → Int) (h : ∀ i, i < 16384 → 0 ≤ m i ∧ m i < 256) (k : Nat) (hk : k < 16384) : ramOf 4096 (fun i => be m (4 * i) 4) k = m k := by
  unfold ramOf
  rw [if_pos (by omega), Wb_be m (k / 4) (k % 4) (by omega) (fun i hi => h _ (by omega)), show 4 * (k / 4) + k % 4 = k by omega]
/-- so far copied -/
def toF (i : Nat) (f : Nat → Bool) (p : Nat) : Bool := if p < i then f p else false
theorem toF_step (i : Nat) (f : Nat → Bool) (p : Nat) : (if p = i then f i else toF i f p) = toF (i + 1) f p := by
  unfold toF
  by_cases h : p = i
  · subst h
    rw [if_pos rfl, if_pos (by omega)]
  · rw [if_neg h]
    by_cases h2 : p < i
    · rw [if_pos h2, if_pos (by omega)]
    · rw [if_neg h2, if_neg (by omega)]
/-- the reference's machine: registers, a pointer to memory -/
def rmF (X : Nat → Int) (q : Nat) (k : Nat) : Value := if k < 64 then .int .u32 (X k) else .pointer (some ⟨q, 0, none⟩)
def rm0 (q : Nat) : List Value := (List.range 64).map (fun _ => .int .u32 0) ++ [.pointer (some ⟨q, 0, none⟩)]
end Go.Proofs.YtlmnmncdoiealaaGreatDoor

/- RefMach2 -/
/- The walk of the reference's NewMachine. -/
namespace Go.Proofs.YtlmnmncdoiealaaGreatDoor
open Go.RowKit Go.Deep
set_option linter.unusedVariables false
set_option linter.unusedSimpArgs false

/-- so far laid -/
def mcTo (s : Cp.St) (i : Nat) (k : Nat) : Int := if 1 ≤ k ∧ k < i then (Ir.mc0 s).X k else 0
theorem mcTo_step (s : Cp.St) (i : Nat) (v : Int) (hi : 1 ≤ i) (hv : (Ir.mc0 s).X i = v) (k : Nat) : Ir.setX (mcTo s i) i v k = mcTo s (i + 1) k := by
  unfold Ir.setX mcTo
  rw [Int.toNat_natCast]
  by_cases h : k = i
  · subst h
    rw [if_pos rfl, if_pos (by omega), hv]
  · rw [if_neg h]
    by_cases h2 : 1 ≤ k ∧ k < i
    · rw [if_pos h2, if_pos (by omega)]
    · rw [if_neg h2, if_neg (by omega)]
theorem mcTo_all (s : Cp.St) (h0 : s.R 0 = 0) (k : Nat) : mcTo s 34 k = (Ir.mc0 s).X k := by
  unfold mcTo
  by_cases h : 1 ≤ k ∧ k < 34
  · rw [if_pos h]
  · rw [if_neg h]
    unfold Ir.mc0
    dsimp only
    by_cases hk : k = 0
    · subst hk
      rw [if_pos (by omega), h0]
    · rw [if_neg (by omega), if_neg (by omega), if_neg (by omega)]
end Go.Proofs.YtlmnmncdoiealaaGreatDoor

/- ResOf0 -/
/- The walk of the reference's ResultOf. Printed by gen/resof.py. -/
namespace Go.Proofs.YtlmnmncdoiealaaGreatDoor
open Go.RowKit Go.Deep
set_option linter.unusedVariables false
set_option linter.unusedSimpArgs false

end Go.Proofs.YtlmnmncdoiealaaGreatDoor

/- ResOf1 -/
/- The walk of the reference's ResultOf. Printed by gen/resof.py. -/
namespace Go.Proofs.YtlmnmncdoiealaaGreatDoor
open Go.RowKit Go.Deep
set_option linter.unusedVariables false
set_option linter.unusedSimpArgs false

end Go.Proofs.YtlmnmncdoiealaaGreatDoor

/- ResOf2 -/
/- The walk of the reference's ResultOf. Printed by gen/resof.py. -/
namespace Go.Proofs.YtlmnmncdoiealaaGreatDoor
open Go.RowKit Go.Deep
set_option linter.unusedVariables false
set_option linter.unusedSimpArgs false

end Go.Proofs.YtlmnmncdoiealaaGreatDoor
