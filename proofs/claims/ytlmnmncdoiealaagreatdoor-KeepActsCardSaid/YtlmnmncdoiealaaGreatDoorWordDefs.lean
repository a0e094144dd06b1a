
/- Plain numbers: what the functions of the packages word and changelingref1 give, said of integers; no program in sight. -/
import Derived.RowKit
namespace Go.Proofs.YtlmnmncdoiealaaGreatDoor
namespace Wd
open Go.RowKit

/-- the signed value of a word -/
def sg (a : Int) : Int := if a < 2147483648 then a else a - 4294967296
theorem sg_wrap (a : Int) (h : 0 ≤ a) (h' : a < 4294967296) : wrap32 a = sg a := by unfold wrap32 sg; split <;> omega
theorem sg_bd (a : Int) (h : 0 ≤ a) (h' : a < 4294967296) : -2147483648 ≤ sg a ∧ sg a ≤ 2147483647 := by unfold sg; split <;> omega
theorem sg_mod (a : Int) (h : 0 ≤ a) (h' : a < 4294967296) : sg a % 4294967296 = a := by unfold sg; split <;> omega
theorem sg_of (n : Int) (h : -2147483648 ≤ n) (h' : n ≤ 2147483647) : sg (n % 4294967296) = n := by unfold sg; split <;> omega
theorem sg_inj (a b : Int) (ha : 0 ≤ a ∧ a < 4294967296) (hb : 0 ≤ b ∧ b < 4294967296) (h : sg a = sg b) : a = b := by
  unfold sg at h; split at h <;> split at h <;> omega

/-- is a number a signed word? -/
def isS (n : Int) : Bool := decide (-2147483648 ≤ n ∧ n < 2147483648)
/-- is a less than b? -/
def less (a b : Int) (s : Bool) : Bool := if s then decide (sg a < sg b) else decide (a < b)

theorem add_over (a b : Int) (ha : 0 ≤ a ∧ a < 4294967296) (hb : 0 ≤ b ∧ b < 4294967296) :
    (wrap64 (wrap64 (wrap32 a) + wrap64 (wrap32 b)) != wrap64 (wrap32 ((a + b) % 4294967296))) = !isS (sg a + sg b) := by
  have h1 : wrap64 (wrap64 (wrap32 a) + wrap64 (wrap32 b)) = sg a + sg b := by
    unfold wrap64 wrap32 sg; split <;> split <;> omega
  have h2 : wrap64 (wrap32 ((a + b) % 4294967296)) = sg ((a + b) % 4294967296) := by
    unfold wrap64 wrap32 sg; split <;> omega
  rw [h1, h2, Bool.eq_iff_iff]
  simp only [isS, bne_iff_ne, ne_eq, Bool.not_eq_true', decide_eq_false_iff_not]
  unfold sg; split <;> split <;> split <;> omega
theorem sub_over (a b : Int) (ha : 0 ≤ a ∧ a < 4294967296) (hb : 0 ≤ b ∧ b < 4294967296) :
    (wrap64 (wrap64 (wrap32 a) - wrap64 (wrap32 b)) != wrap64 (wrap32 ((a - b) % 4294967296))) = !isS (sg a - sg b) := by
  have h1 : wrap64 (wrap64 (wrap32 a) - wrap64 (wrap32 b)) = sg a - sg b := by
    unfold wrap64 wrap32 sg; split <;> split <;> omega
  have h2 : wrap64 (wrap32 ((a - b) % 4294967296)) = sg ((a - b) % 4294967296) := by
    unfold wrap64 wrap32 sg; split <;> omega
  rw [h1, h2, Bool.eq_iff_iff]
  simp only [isS, bne_iff_ne, ne_eq, Bool.not_eq_true', decide_eq_false_iff_not]
  unfold sg; split <;> split <;> split <;> omega
theorem mul_bd (X Y p q : Int) (hX : 0 ≤ X) (hXp : X ≤ p) (hY : 0 ≤ Y) (hYq : Y ≤ q) : 0 ≤ X * Y ∧ X * Y ≤ p * q := by
  refine ⟨Int.mul_nonneg hX hY, Int.mul_le_mul hXp hYq hY (by omega)⟩
theorem split (X Y : Int) : X * (Y % 65536) + 65536 * (X * (Y / 65536)) = X * Y := by
  have h : Y % 65536 + 65536 * (Y / 65536) = Y := by omega
  have e : X * (Y % 65536 + 65536 * (Y / 65536)) = X * (Y % 65536) + 65536 * (X * (Y / 65536)) := by
    rw [Int.mul_add, ← Int.mul_assoc, Int.mul_comm X 65536, Int.mul_assoc]
  rw [← e, h]
/-- the product's two words -/
def pr (a b : Int) (s : Bool) : Int := if s then sg a * sg b else a * b
def hi (a b : Int) (s : Bool) : Int := pr a b s / 4294967296 % 4294967296
def lo (a b : Int) (s : Bool) : Int := pr a b s % 4294967296
def Fac (p X Y : Int) (M : Bool) : Prop := 0 ≤ X ∧ X ≤ 4294967295 ∧ 0 ≤ Y ∧ Y ≤ 4294967295 ∧ p = if M then -(X * Y) else X * Y
theorem fac_f (a b : Int) (ha : 0 ≤ a ∧ a < 4294967296)  (hb : 0 ≤ b ∧ b < 4294967296) : Fac (pr a b false) a b false := ⟨by omega, by omega, by omega, by omega, rfl⟩
theorem fac_pp (a b x y : Int) (hx : sg a = x) (hy : sg b = y) (h1 : -2147483648 ≤ x ∧ x ≤ 2147483647) (h2 : -2147483648 ≤ y ∧ y ≤ 2147483647) (h : 0 ≤ x) (h' : 0 ≤ y) : Fac (pr a b true) x y false :=
  ⟨by omega, by omega, by omega, by omega, by rw [pr, if_pos rfl, hx, hy]; first | rfl | (rw [if_pos rfl]; first | rw [Int.neg_mul, Int.neg_neg] | rw [Int.mul_neg, Int.neg_neg]) | (rw [if_neg (by decide), Int.neg_mul, Int.mul_neg, Int.neg_neg])⟩
theorem fac_np (a b x y : Int) (hx : sg a = x) (hy : sg b = y) (h1 : -2147483648 ≤ x ∧ x ≤ 2147483647) (h2 : -2147483648 ≤ y ∧ y ≤ 2147483647) (h : x < 0) (h' : 0 ≤ y) : Fac (pr a b true) (-x) y true :=
  ⟨by omega, by omega, by omega, by omega, by rw [pr, if_pos rfl, hx, hy]; first | rfl | (rw [if_pos rfl]; first | rw [Int.neg_mul, Int.neg_neg] | rw [Int.mul_neg, Int.neg_neg]) | (rw [if_neg (by decide), Int.neg_mul, Int.mul_neg, Int.neg_neg])⟩
theorem fac_pn (a b x y : Int) (hx : sg a = x) (hy : sg b = y) (h1 : -2147483648 ≤ x ∧ x ≤ 2147483647) (h2 : -2147483648 ≤ y ∧ y ≤ 2147483647) (h : 0 ≤ x) (h' : y < 0) : Fac (pr a b true) x (-y) true :=
  ⟨by omega, by omega, by omega, by omega, by rw [pr, if_pos rfl, hx, hy]; first | rfl | (rw [if_pos rfl]; first | rw [Int.neg_mul, Int.neg_neg] | rw [Int.mul_neg, Int.neg_neg]) | (rw [if_neg (by decide), Int.neg_mul, Int.mul_neg, Int.neg_neg])⟩
theorem fac_nn (a b x y : Int) (hx : sg a = x) (hy : sg b = y) (h1 : -2147483648 ≤ x ∧ x ≤ 2147483647) (h2 : -2147483648 ≤ y ∧ y ≤ 2147483647) (h : x < 0) (h' : y < 0) : Fac (pr a b true) (-x) (-y) false :=
  ⟨by omega, by omega, by omega, by omega, by rw [pr, if_pos rfl, hx, hy]; first | rfl | (rw [if_pos rfl]; first | rw [Int.neg_mul, Int.neg_neg] | rw [Int.mul_neg, Int.neg_neg]) | (rw [if_neg (by decide), Int.neg_mul, Int.mul_neg, Int.neg_neg])⟩

/-- quotient, rest, and whether there are any -/
def quo (a b : Int) (s : Bool) : Int := if b = 0 then 0 else if s then (sg a).tdiv (sg b) % 4294967296 else a / b
def rst (a b : Int) (s : Bool) : Int := if b = 0 then 0 else if s then (sg a).tmod (sg b) % 4294967296 else a % b

theorem p2 : ∀ k : Nat, k < 33 → 1 ≤ (2 : Int) ^ k ∧ (2 : Int) ^ k ≤ 4294967296 ∧ (2 : Int) ^ k * 2 ^ (32 - k) = 4294967296 ∧ (4294967296 : Int) / 2 ^ k = 2 ^ (32 - k) := by decide +kernel
theorem p2' : ∀ k : Nat, k < 32 → 1 ≤ (2 : Int) ^ k ∧ (2 : Int) ^ k ≤ 2147483648 := by decide +kernel

def shl (a n : Int) : Int := a * 2 ^ (n % 32).toNat % 4294967296
def shr (a n : Int) : Int := a / 2 ^ (n % 32).toNat
def sar (a n : Int) : Int := sg a / 2 ^ (n % 32).toNat % 4294967296
/-- a shift by its letter -/
def shift (k a n : Int) : Int := if k = 60 then shl a n else if k = 62 then shr a n else if k = 126 then sar a n else a
/-- the lowest bits as a word -/
def wide (v n : Int) (s : Bool) : Int :=
  if n < 1 ∨ 32 < n then v else if s = true ∧ 2 ^ n.toNat ≤ 2 * (v % 2 ^ n.toNat) then (v % 2 ^ n.toNat - 2 ^ n.toNat) % 4294967296 else v % 2 ^ n.toNat

theorem shl_of (a q r : Int) (hq : 1 ≤ q) (hqr : q * r = 4294967296) : a * q % 4294967296 = a % r * q := by
  rw [← hqr, Int.mul_comm a q, Int.mul_emod_mul_of_pos _ _ (by omega), Int.mul_comm]
/-- the power that a shift is by, named: its bounds and the rest of a word -/
theorem pw (n : Int) : ∃ (m : Nat) (q r : Int), n % 32 = m ∧ m < 32 ∧ (2 : Int) ^ (n % 32).toNat = q ∧ (2 : Int) ^ m = q ∧ 1 ≤ q ∧ q ≤ 2147483648 ∧ 1 ≤ r ∧ q * r = 4294967296 ∧ 4294967296 / q = r := by
  have hm : n % 32 = ((n % 32).toNat : Int) := by omega
  have hlt : (n % 32).toNat < 32 := by omega
  generalize (n % 32).toNat = m at *
  have h1 := p2 m (by omega)
  have h2 := p2' m hlt
  have h3 := p2 (32 - m) (by omega)
  exact ⟨m, 2 ^ m, 2 ^ (32 - m), hm, hlt, rfl, rfl, h1.1, h2.2, h3.1, h1.2.2.1, h1.2.2.2⟩
theorem rem_bd (a q r : Int) (hq : 1 ≤ q) (hqr : q * r = 4294967296) : 0 ≤ a % r * q ∧ a % r * q < 4294967296 := by
  rw [← shl_of a q r hq hqr]; omega
/-- a floored quotient by way of the one cut towards nought -/
theorem floor_q (s q : Int) (hq : 1 ≤ q) : s / q = if s < 0 ∧ s.tmod q ≠ 0 then s.tdiv q - 1 else s.tdiv q := by
  have h1 := Int.mul_tdiv_add_tmod s q
  split
  · rename_i h
    have := Int.tmod_lt_of_pos s (b := q) (by omega)
    have h3 : s.tmod q ≤ 0 := by
      have := Int.tmod_nonneg (a := -s) q (by omega); rw [Int.neg_tmod] at this; omega
    have h4 : -q < s.tmod q := by
      have := Int.tmod_lt_of_pos (-s) (b := q) (by omega); rw [Int.neg_tmod] at this; omega
    refine Int.ediv_eq_iff_of_pos (by omega) |>.2 ?_
    constructor
    · rw [Int.sub_mul, Int.mul_comm]; omega
    · rw [Int.sub_mul, Int.mul_comm]; omega
  · rename_i h
    by_cases h0 : 0 ≤ s
    · exact (Int.tdiv_eq_ediv_of_nonneg h0).symm
    · have hz : s.tmod q = 0 := by
        have := Classical.not_and_iff_not_or_not.1 h; omega
      have : q * s.tdiv q = s := by omega
      rw [Int.ediv_eq_iff_of_pos (by omega), Int.mul_comm]; omega
theorem quo_bd (x y : Int) (hx : -2147483648 ≤ x ∧ x ≤ 2147483647) (hy : y ≠ 0) (h : ¬ (x = -2147483648 ∧ y = -1)) : -2147483648 ≤ x.tdiv y ∧ x.tdiv y ≤ 2147483647 := by
  have h1 : (x.tdiv y).natAbs ≤ x.natAbs := by rw [Int.natAbs_tdiv]; exact Nat.div_le_self _ _
  refine ⟨by omega, ?_⟩
  apply Classical.byContradiction
  intro hc
  have h2 : x.natAbs = 2147483648 := by omega
  have h3 : (x.tdiv y).natAbs = 2147483648 := by omega
  have hx' : x = -2147483648 := by omega
  rw [Int.natAbs_tdiv, h2] at h3
  have h3 : 2147483648 / y.natAbs = 2147483648 := h3
  have hy1 : y.natAbs = 1 := by
    apply Classical.byContradiction
    intro hn
    have h9 : 2147483648 / y.natAbs ≤ 2147483648 / 2 := Nat.div_le_div_left (by omega) (by omega)
    rw [h3] at h9
    exact absurd h9 (by decide)
  have hy2 : y = 1 := by
    have : y ≠ -1 := fun e => h ⟨hx', e⟩
    omega
  rw [hy2, Int.tdiv_one] at hc
  omega

theorem wide_of (v n : Int) (_hv : 0 ≤ v ∧ v < 4294967296) (h1 : 1 ≤ n) (h2 : n ≤ 32) :
    v * 2 ^ (32 - n).toNat % 4294967296 / 2 ^ (32 - n).toNat = wide v n false ∧ wrap32 (v * 2 ^ (32 - n).toNat % 4294967296) / 2 ^ (32 - n).toNat % 4294967296 = wide v n true := by
  have hk : n.toNat < 33 := by omega
  have hk' : (32 - n).toNat = 32 - n.toNat := by omega
  have h3 := p2 n.toNat hk
  have h4 := p2 (32 - n.toNat) (by omega)
  have hw : ∀ s, wide v n s = if s = true ∧ 2 ^ n.toNat ≤ 2 * (v % 2 ^ n.toNat) then (v % 2 ^ n.toNat - 2 ^ n.toNat) % 4294967296 else v % 2 ^ n.toNat := fun s => by rw [wide, if_neg (by omega)]
  rw [hw, hw, hk']
  simp only [Bool.false_eq_true, false_and, if_false, true_and]
  generalize (2 : Int) ^ n.toNat = r at *
  generalize (2 : Int) ^ (32 - n.toNat) = q at *
  obtain ⟨r1, _, hqr, _⟩ := h3
  obtain ⟨q1, _, _, _⟩ := h4
  have hqr' : q * r = 4294967296 := by rw [Int.mul_comm]; exact hqr
  have hb := rem_bd v q r q1 hqr'
  rw [shl_of v q r q1 hqr']
  have hm : 0 ≤ v % r ∧ v % r < r := ⟨Int.emod_nonneg _ (by omega), Int.emod_lt_of_pos _ (by omega)⟩
  generalize v % r = m at *
  refine ⟨Int.mul_ediv_cancel _ (by omega), ?_⟩
  rw [sg_wrap _ hb.1 hb.2]
  have hd : 2 * (m * q) = (2 * m) * q := by rw [Int.mul_assoc]
  by_cases hc : r ≤ 2 * m
  · rw [if_pos hc]
    have h5 : r * q ≤ (2 * m) * q := Int.mul_le_mul_of_nonneg_right hc (by omega)
    rw [sg, if_neg (by omega), ← hqr', Int.mul_comm q r, ← Int.sub_mul, Int.mul_ediv_cancel _ (by omega), hqr]
  · rw [if_neg hc]
    have h5 : (2 * m) * q < r * q := Int.mul_lt_mul_of_pos_right (by omega) (by omega)
    rw [sg, if_pos (by omega), Int.mul_ediv_cancel _ (by omega)]
    have h6 : r * 1 ≤ r * q := Int.mul_le_mul_of_nonneg_left q1 (by omega)
    omega
theorem quo_0 (a : Int) (s : Bool) : quo a 0 s = 0 := rfl
theorem rst_0 (a : Int) (s : Bool) : rst a 0 s = 0 := rfl
theorem quo_u (a b : Int) (h : b ≠ 0) : quo a b false = a / b := by rw [quo, if_neg h]; rfl
theorem rst_u (a b : Int) (h : b ≠ 0) : rst a b false = a % b := by rw [rst, if_neg h]; rfl
theorem quo_s (a b : Int) (h : b ≠ 0) : quo a b true = (sg a).tdiv (sg b) % 4294967296 := by rw [quo, if_neg h]; rfl
theorem rst_s (a b : Int) (h : b ≠ 0) : rst a b true = (sg a).tmod (sg b) % 4294967296 := by rw [rst, if_neg h]; rfl
theorem shift_60 (a n q : Int) (h : (2 : Int) ^ (n % 32).toNat = q) : shift 60 a n = a * q % 4294967296 := by rw [← h]; rfl
theorem shift_62 (a n q : Int) (h : (2 : Int) ^ (n % 32).toNat = q) : shift 62 a n = a / q := by rw [← h]; rfl
theorem shift_126 (a n q : Int) (h : (2 : Int) ^ (n % 32).toNat = q) : shift 126 a n = sg a / q % 4294967296 := by rw [← h]; rfl
theorem shift_no (k a n : Int) (h : k ≠ 60) (h' : k ≠ 62) (h'' : k ≠ 126) : shift k a n = a := by rw [shift, if_neg h, if_neg h', if_neg h'']
theorem u64_mod (p : Int) : IntKind.u64.wrap p = p % 18446744073709551616 := by simp [IntKind.wrap, IntKind.bits, IntKind.signed]
theorem mul_u (a b : Int) : IntKind.u64.wrap (a * b) / 4294967296 % 4294967296 = hi a b false ∧ IntKind.u64.wrap (a * b) % 4294967296 = lo a b false := by
  rw [u64_mod]
  show _ = (a * b) / 4294967296 % 4294967296 ∧ _ = (a * b) % 4294967296
  generalize a * b = p
  omega
theorem mul_s (a b : Int) (ha : 0 ≤ a ∧ a < 4294967296) (hb : 0 ≤ b ∧ b < 4294967296) :
    IntKind.u64.wrap (wrap64 (wrap64 (wrap32 a) * wrap64 (wrap32 b))) / 4294967296 % 4294967296 = hi a b true ∧ IntKind.u64.wrap (wrap64 (wrap64 (wrap32 a) * wrap64 (wrap32 b))) % 4294967296 = lo a b true := by
  have h1 : wrap64 (wrap32 a) = sg a := by rw [sg_wrap a ha.1 ha.2]; have := sg_bd a ha.1 ha.2; unfold wrap64; omega
  have h2 : wrap64 (wrap32 b) = sg b := by rw [sg_wrap b hb.1 hb.2]; have := sg_bd b hb.1 hb.2; unfold wrap64; omega
  rw [h1, h2, u64_mod]
  show _ = (sg a * sg b) / 4294967296 % 4294967296 ∧ _ = (sg a * sg b) % 4294967296
  generalize sg a * sg b = p
  unfold wrap64
  omega
end Wd
end Go.Proofs.YtlmnmncdoiealaaGreatDoor
