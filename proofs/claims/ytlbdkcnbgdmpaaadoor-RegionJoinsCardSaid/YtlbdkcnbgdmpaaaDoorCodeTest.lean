
/- The test by which a word is of a row, as the program has it and as the reference has it. No program in sight. -/
import Derived.Test.YtlbdkcnbgdmpaaaDoorCodeDefs
import Derived.Laws.BitsAllLaws
import Derived.KernelRfl
namespace Go.Proofs.YtlbdkcnbgdmpaaaDoor
open Go.RowKit
set_option linter.unusedVariables false

/-- a field's bits -/
def fmask (c : UInt8) : Int := if c = 83 then 65011712 else if c = 84 then 2031616 else if c = 68 then 63488 else if c = 97 then 1984 else if c = 105 then 65535 else 67108863
def maskOf (l : List UInt8) : Int := l.foldl (fun m c => bits .or .u32 m (fmask c)) 0
def fixV (mj mn : Int) : Int := if mj = 0 then mn else if mj = 16 then 1073741824 + mn * 2097152 + (if mn = 16 then 24 else 0) else mj * 67108864
namespace Cd
theorem and6 (a s t d h f ca cs ct cd ch cf : Nat) (h1 : s < 32) (h2 : t < 32) (h3 : d < 32) (h4 : h < 32) (h5 : f < 64) (g1 : cs < 32) (g2 : ct < 32) (g3 : cd < 32) (g4 : ch < 32) (g5 : cf < 64) :
    (((((a * 32 + s) * 32 + t) * 32 + d) * 32 + h) * 64 + f) &&& (((((ca * 32 + cs) * 32 + ct) * 32 + cd) * 32 + ch) * 64 + cf) = (((((a &&& ca) * 32 + (s &&& cs)) * 32 + (t &&& ct)) * 32 + (d &&& cd)) * 32 + (h &&& ch)) * 64 + (f &&& cf) := by
  have e5 := and_split 6 ((((a * 32 + s) * 32 + t) * 32 + d) * 32 + h) f ((((ca * 32 + cs) * 32 + ct) * 32 + cd) * 32 + ch) cf h5 g5
  have e4 := and_split 5 (((a * 32 + s) * 32 + t) * 32 + d) h (((ca * 32 + cs) * 32 + ct) * 32 + cd) ch h4 g4
  have e3 := and_split 5 ((a * 32 + s) * 32 + t) d ((ca * 32 + cs) * 32 + ct) cd h3 g3
  have e2 := and_split 5 (a * 32 + s) t (ca * 32 + cs) ct h2 g2
  have e1 := and_split 5 a s ca cs h1 g1
  simp only [Nat.reducePow] at e1 e2 e3 e4 e5
  rw [e5, e4, e3, e2, e1]
set_option maxHeartbeats 1000000 in
/-- what is left of a word when some of its fields are struck -/
theorem strike (w : Int) (hw : 0 ≤ w ∧ w < 4294967296) (M : Int) (hM : 0 ≤ M ∧ M < 4294967296) (cs ct cd ch cf : Nat) (hc : (4294967295 - M.toNat) = ((((63 * 32 + cs) * 32 + ct) * 32 + cd) * 32 + ch) * 64 + cf)
    (gs : cs = 0 ∨ cs = 31) (gt : ct = 0 ∨ ct = 31) (gd : cd = 0 ∨ cd = 31) (gh : ch = 0 ∨ ch = 31) (gf : cf = 0 ∨ cf = 63) :
    bits .andNot .u32 w M = w / 67108864 * 67108864 + (if cs = 0 then 0 else w / 2097152 % 32) * 2097152 + (if ct = 0 then 0 else w / 65536 % 32) * 65536 + (if cd = 0 then 0 else w / 2048 % 32) * 2048 + (if ch = 0 then 0 else w / 64 % 32) * 64 + (if cf = 0 then 0 else w % 64) := by
  rw [u32_andNot w M hw.1 hw.2 hM.1 hM.2, hc]
  obtain ⟨n, rfl⟩ := Int.eq_ofNat_of_zero_le hw.1
  rw [Int.toNat_natCast]
  have hn : n = ((((n / 67108864 * 32 + n / 2097152 % 32) * 32 + n / 65536 % 32) * 32 + n / 2048 % 32) * 32 + n / 64 % 32) * 64 + n % 64 := by omega
  have e := and6 (n / 67108864) (n / 2097152 % 32) (n / 65536 % 32) (n / 2048 % 32) (n / 64 % 32) (n % 64) 63 cs ct cd ch cf (by omega) (by omega) (by omega) (by omega) (by omega) (by omega) (by omega) (by omega) (by omega) (by omega)
  rw [← hn] at e
  rw [e]
  have ha : n / 67108864 &&& 63 = n / 67108864 := and_ones 6 _ (by omega)
  have z : ∀ x c b : Nat, x < 2 ^ b → (c = 0 ∨ c = 2 ^ b - 1) → x &&& c = if c = 0 then 0 else x := by
    intro x c b hx hcb
    rcases hcb with rfl | h
    · rw [if_pos rfl, Nat.and_zero]
    · by_cases h0 : c = 0
      · rw [if_pos h0, h0, Nat.and_zero]
      · rw [if_neg h0, h, and_ones b x hx]
  rw [ha, z _ cs 5 (by omega) gs, z _ ct 5 (by omega) gt, z _ cd 5 (by omega) gd, z _ ch 5 (by omega) gh, z _ cf 6 (by omega) gf]
  have q : ∀ (c x : Nat), ((if c = 0 then 0 else x : Nat) : Int) = if c = 0 then 0 else (x : Int) := fun c x => by split <;> rfl
  have e1 := q cs (n / 2097152 % 32)
  have e2 := q ct (n / 65536 % 32)
  have e3 := q cd (n / 2048 % 32)
  have e4 := q ch (n / 64 % 32)
  have e5 := q cf (n % 64)
  simp only [Int.natCast_emod, Int.natCast_ediv, Int.cast_ofNat_Int] at e1 e2 e3 e4 e5
  rw [← e1, ← e2, ← e3, ← e4, ← e5]
  generalize (if cs = 0 then 0 else n / 2097152 % 32) = A
  generalize (if ct = 0 then 0 else n / 65536 % 32) = B
  generalize (if cd = 0 then 0 else n / 2048 % 32) = C
  generalize (if ch = 0 then 0 else n / 64 % 32) = D
  generalize (if cf = 0 then 0 else n % 64) = E
  clear e hn ha z q
  omega
end Cd
theorem mask_0 : maskOf [84, 68, 97] = 2097088 := by kernel_rfl
theorem strike_0 (w : Int) (hw : 0 ≤ w ∧ w < 4294967296) : bits .andNot .u32 w 2097088 = w / 67108864 * 67108864 + w / 2097152 % 32 * 2097152 + 0 * 65536 + 0 * 2048 + 0 * 64 + w % 64 :=
  Cd.strike w hw 2097088 (by decide) 31 0 0 0 63 (by decide) (by decide) (by decide) (by decide) (by decide) (by decide)
theorem mask_1 : maskOf [83, 84, 68] = 67106816 := by kernel_rfl
theorem strike_1 (w : Int) (hw : 0 ≤ w ∧ w < 4294967296) : bits .andNot .u32 w 67106816 = w / 67108864 * 67108864 + 0 * 2097152 + 0 * 65536 + 0 * 2048 + w / 64 % 32 * 64 + w % 64 :=
  Cd.strike w hw 67106816 (by decide) 0 0 0 31 63 (by decide) (by decide) (by decide) (by decide) (by decide) (by decide)
theorem mask_2 : maskOf [83] = 65011712 := by kernel_rfl
theorem strike_2 (w : Int) (hw : 0 ≤ w ∧ w < 4294967296) : bits .andNot .u32 w 65011712 = w / 67108864 * 67108864 + 0 * 2097152 + w / 65536 % 32 * 65536 + w / 2048 % 32 * 2048 + w / 64 % 32 * 64 + w % 64 :=
  Cd.strike w hw 65011712 (by decide) 0 31 31 31 63 (by decide) (by decide) (by decide) (by decide) (by decide) (by decide)
theorem mask_3 : maskOf [83, 68] = 65075200 := by kernel_rfl
theorem strike_3 (w : Int) (hw : 0 ≤ w ∧ w < 4294967296) : bits .andNot .u32 w 65075200 = w / 67108864 * 67108864 + 0 * 2097152 + w / 65536 % 32 * 65536 + 0 * 2048 + w / 64 % 32 * 64 + w % 64 :=
  Cd.strike w hw 65075200 (by decide) 0 31 0 31 63 (by decide) (by decide) (by decide) (by decide) (by decide) (by decide)
theorem mask_4 : maskOf [] = 0 := by kernel_rfl
theorem strike_4 (w : Int) (hw : 0 ≤ w ∧ w < 4294967296) : bits .andNot .u32 w 0 = w / 67108864 * 67108864 + w / 2097152 % 32 * 2097152 + w / 65536 % 32 * 65536 + w / 2048 % 32 * 2048 + w / 64 % 32 * 64 + w % 64 :=
  Cd.strike w hw 0 (by decide) 31 31 31 31 63 (by decide) (by decide) (by decide) (by decide) (by decide) (by decide)
theorem mask_5 : maskOf [68] = 63488 := by kernel_rfl
theorem strike_5 (w : Int) (hw : 0 ≤ w ∧ w < 4294967296) : bits .andNot .u32 w 63488 = w / 67108864 * 67108864 + w / 2097152 % 32 * 2097152 + w / 65536 % 32 * 65536 + 0 * 2048 + w / 64 % 32 * 64 + w % 64 :=
  Cd.strike w hw 63488 (by decide) 31 31 0 31 63 (by decide) (by decide) (by decide) (by decide) (by decide) (by decide)
theorem mask_6 : maskOf [83, 84] = 67043328 := by kernel_rfl
theorem strike_6 (w : Int) (hw : 0 ≤ w ∧ w < 4294967296) : bits .andNot .u32 w 67043328 = w / 67108864 * 67108864 + 0 * 2097152 + 0 * 65536 + w / 2048 % 32 * 2048 + w / 64 % 32 * 64 + w % 64 :=
  Cd.strike w hw 67043328 (by decide) 0 0 31 31 63 (by decide) (by decide) (by decide) (by decide) (by decide) (by decide)
theorem mask_7 : maskOf [106] = 67108863 := by kernel_rfl
theorem strike_7 (w : Int) (hw : 0 ≤ w ∧ w < 4294967296) : bits .andNot .u32 w 67108863 = w / 67108864 * 67108864 + 0 * 2097152 + 0 * 65536 + 0 * 2048 + 0 * 64 + 0 :=
  Cd.strike w hw 67108863 (by decide) 0 0 0 0 0 (by decide) (by decide) (by decide) (by decide) (by decide) (by decide)
theorem mask_8 : maskOf [83, 84, 105] = 67108863 := by kernel_rfl
theorem strike_8 (w : Int) (hw : 0 ≤ w ∧ w < 4294967296) : bits .andNot .u32 w 67108863 = w / 67108864 * 67108864 + 0 * 2097152 + 0 * 65536 + 0 * 2048 + 0 * 64 + 0 :=
  Cd.strike w hw 67108863 (by decide) 0 0 0 0 0 (by decide) (by decide) (by decide) (by decide) (by decide) (by decide)
theorem mask_9 : maskOf [83, 105] = 65077247 := by kernel_rfl
theorem strike_9 (w : Int) (hw : 0 ≤ w ∧ w < 4294967296) : bits .andNot .u32 w 65077247 = w / 67108864 * 67108864 + 0 * 2097152 + w / 65536 % 32 * 65536 + 0 * 2048 + 0 * 64 + 0 :=
  Cd.strike w hw 65077247 (by decide) 0 31 0 0 0 (by decide) (by decide) (by decide) (by decide) (by decide) (by decide)
theorem mask_10 : maskOf [84, 105] = 2097151 := by kernel_rfl
theorem strike_10 (w : Int) (hw : 0 ≤ w ∧ w < 4294967296) : bits .andNot .u32 w 2097151 = w / 67108864 * 67108864 + w / 2097152 % 32 * 2097152 + 0 * 65536 + 0 * 2048 + 0 * 64 + 0 :=
  Cd.strike w hw 2097151 (by decide) 31 0 0 0 0 (by decide) (by decide) (by decide) (by decide) (by decide) (by decide)
theorem mask_11 : maskOf [84, 68] = 2095104 := by kernel_rfl
theorem strike_11 (w : Int) (hw : 0 ≤ w ∧ w < 4294967296) : bits .andNot .u32 w 2095104 = w / 67108864 * 67108864 + w / 2097152 % 32 * 2097152 + 0 * 65536 + 0 * 2048 + w / 64 % 32 * 64 + w % 64 :=
  Cd.strike w hw 2095104 (by decide) 31 0 0 31 63 (by decide) (by decide) (by decide) (by decide) (by decide) (by decide)
/-- one row's test -/
def rowTest (w : Int) (r : Cd.Row) : Bool := decide (w / 67108864 = r.major) && decide (bits .andNot .u32 w (maskOf r.fields) = fixV r.major r.minor)
theorem test_1 (w : Int) (hw : 0 ≤ w ∧ w < 4294967296) : Cd.isRow w (Cd.row 1) = rowTest w (Cd.row 1) := by
  unfold Cd.isRow rowTest
  delta Cd.part
  simp only [Cd.row, mask_0, strike_0 w hw, Cd.has, Cd.low, Cd.mid, fixV]
  rw [Bool.eq_iff_iff]
  simp
  try omega
theorem test_2 (w : Int) (hw : 0 ≤ w ∧ w < 4294967296) : Cd.isRow w (Cd.row 2) = rowTest w (Cd.row 2) := by
  unfold Cd.isRow rowTest
  delta Cd.part
  simp only [Cd.row, mask_0, strike_0 w hw, Cd.has, Cd.low, Cd.mid, fixV]
  rw [Bool.eq_iff_iff]
  simp
  try omega
theorem test_3 (w : Int) (hw : 0 ≤ w ∧ w < 4294967296) : Cd.isRow w (Cd.row 3) = rowTest w (Cd.row 3) := by
  unfold Cd.isRow rowTest
  delta Cd.part
  simp only [Cd.row, mask_0, strike_0 w hw, Cd.has, Cd.low, Cd.mid, fixV]
  rw [Bool.eq_iff_iff]
  simp
  try omega
theorem test_4 (w : Int) (hw : 0 ≤ w ∧ w < 4294967296) : Cd.isRow w (Cd.row 4) = rowTest w (Cd.row 4) := by
  unfold Cd.isRow rowTest
  delta Cd.part
  simp only [Cd.row, mask_1, strike_1 w hw, Cd.has, Cd.low, Cd.mid, fixV]
  rw [Bool.eq_iff_iff]
  simp
  try omega
theorem test_5 (w : Int) (hw : 0 ≤ w ∧ w < 4294967296) : Cd.isRow w (Cd.row 5) = rowTest w (Cd.row 5) := by
  unfold Cd.isRow rowTest
  delta Cd.part
  simp only [Cd.row, mask_1, strike_1 w hw, Cd.has, Cd.low, Cd.mid, fixV]
  rw [Bool.eq_iff_iff]
  simp
  try omega
theorem test_6 (w : Int) (hw : 0 ≤ w ∧ w < 4294967296) : Cd.isRow w (Cd.row 6) = rowTest w (Cd.row 6) := by
  unfold Cd.isRow rowTest
  delta Cd.part
  simp only [Cd.row, mask_1, strike_1 w hw, Cd.has, Cd.low, Cd.mid, fixV]
  rw [Bool.eq_iff_iff]
  simp
  try omega
theorem test_19 (w : Int) (hw : 0 ≤ w ∧ w < 4294967296) : Cd.isRow w (Cd.row 19) = rowTest w (Cd.row 19) := by
  unfold Cd.isRow rowTest
  delta Cd.part
  simp only [Cd.row, mask_1, strike_1 w hw, Cd.has, Cd.low, Cd.mid, fixV]
  rw [Bool.eq_iff_iff]
  simp
  try omega
theorem test_20 (w : Int) (hw : 0 ≤ w ∧ w < 4294967296) : Cd.isRow w (Cd.row 20) = rowTest w (Cd.row 20) := by
  unfold Cd.isRow rowTest
  delta Cd.part
  simp only [Cd.row, mask_1, strike_1 w hw, Cd.has, Cd.low, Cd.mid, fixV]
  rw [Bool.eq_iff_iff]
  simp
  try omega
theorem test_21 (w : Int) (hw : 0 ≤ w ∧ w < 4294967296) : Cd.isRow w (Cd.row 21) = rowTest w (Cd.row 21) := by
  unfold Cd.isRow rowTest
  delta Cd.part
  simp only [Cd.row, mask_1, strike_1 w hw, Cd.has, Cd.low, Cd.mid, fixV]
  rw [Bool.eq_iff_iff]
  simp
  try omega
theorem test_22 (w : Int) (hw : 0 ≤ w ∧ w < 4294967296) : Cd.isRow w (Cd.row 22) = rowTest w (Cd.row 22) := by
  unfold Cd.isRow rowTest
  delta Cd.part
  simp only [Cd.row, mask_1, strike_1 w hw, Cd.has, Cd.low, Cd.mid, fixV]
  rw [Bool.eq_iff_iff]
  simp
  try omega
theorem test_23 (w : Int) (hw : 0 ≤ w ∧ w < 4294967296) : Cd.isRow w (Cd.row 23) = rowTest w (Cd.row 23) := by
  unfold Cd.isRow rowTest
  delta Cd.part
  simp only [Cd.row, mask_1, strike_1 w hw, Cd.has, Cd.low, Cd.mid, fixV]
  rw [Bool.eq_iff_iff]
  simp
  try omega
theorem test_24 (w : Int) (hw : 0 ≤ w ∧ w < 4294967296) : Cd.isRow w (Cd.row 24) = rowTest w (Cd.row 24) := by
  unfold Cd.isRow rowTest
  delta Cd.part
  simp only [Cd.row, mask_1, strike_1 w hw, Cd.has, Cd.low, Cd.mid, fixV]
  rw [Bool.eq_iff_iff]
  simp
  try omega
theorem test_25 (w : Int) (hw : 0 ≤ w ∧ w < 4294967296) : Cd.isRow w (Cd.row 25) = rowTest w (Cd.row 25) := by
  unfold Cd.isRow rowTest
  delta Cd.part
  simp only [Cd.row, mask_1, strike_1 w hw, Cd.has, Cd.low, Cd.mid, fixV]
  rw [Bool.eq_iff_iff]
  simp
  try omega
theorem test_26 (w : Int) (hw : 0 ≤ w ∧ w < 4294967296) : Cd.isRow w (Cd.row 26) = rowTest w (Cd.row 26) := by
  unfold Cd.isRow rowTest
  delta Cd.part
  simp only [Cd.row, mask_1, strike_1 w hw, Cd.has, Cd.low, Cd.mid, fixV]
  rw [Bool.eq_iff_iff]
  simp
  try omega
theorem test_27 (w : Int) (hw : 0 ≤ w ∧ w < 4294967296) : Cd.isRow w (Cd.row 27) = rowTest w (Cd.row 27) := by
  unfold Cd.isRow rowTest
  delta Cd.part
  simp only [Cd.row, mask_1, strike_1 w hw, Cd.has, Cd.low, Cd.mid, fixV]
  rw [Bool.eq_iff_iff]
  simp
  try omega
theorem test_28 (w : Int) (hw : 0 ≤ w ∧ w < 4294967296) : Cd.isRow w (Cd.row 28) = rowTest w (Cd.row 28) := by
  unfold Cd.isRow rowTest
  delta Cd.part
  simp only [Cd.row, mask_1, strike_1 w hw, Cd.has, Cd.low, Cd.mid, fixV]
  rw [Bool.eq_iff_iff]
  simp
  try omega
theorem test_7 (w : Int) (hw : 0 ≤ w ∧ w < 4294967296) : Cd.isRow w (Cd.row 7) = rowTest w (Cd.row 7) := by
  unfold Cd.isRow rowTest
  delta Cd.part
  simp only [Cd.row, mask_2, strike_2 w hw, Cd.has, Cd.low, Cd.mid, fixV]
  rw [Bool.eq_iff_iff]
  simp
  try omega
theorem test_12 (w : Int) (hw : 0 ≤ w ∧ w < 4294967296) : Cd.isRow w (Cd.row 12) = rowTest w (Cd.row 12) := by
  unfold Cd.isRow rowTest
  delta Cd.part
  simp only [Cd.row, mask_2, strike_2 w hw, Cd.has, Cd.low, Cd.mid, fixV]
  rw [Bool.eq_iff_iff]
  simp
  try omega
theorem test_14 (w : Int) (hw : 0 ≤ w ∧ w < 4294967296) : Cd.isRow w (Cd.row 14) = rowTest w (Cd.row 14) := by
  unfold Cd.isRow rowTest
  delta Cd.part
  simp only [Cd.row, mask_2, strike_2 w hw, Cd.has, Cd.low, Cd.mid, fixV]
  rw [Bool.eq_iff_iff]
  simp
  try omega
theorem test_8 (w : Int) (hw : 0 ≤ w ∧ w < 4294967296) : Cd.isRow w (Cd.row 8) = rowTest w (Cd.row 8) := by
  unfold Cd.isRow rowTest
  delta Cd.part
  simp only [Cd.row, mask_3, strike_3 w hw, Cd.has, Cd.low, Cd.mid, fixV]
  rw [Bool.eq_iff_iff]
  simp
  try omega
theorem test_9 (w : Int) (hw : 0 ≤ w ∧ w < 4294967296) : Cd.isRow w (Cd.row 9) = rowTest w (Cd.row 9) := by
  unfold Cd.isRow rowTest
  delta Cd.part
  simp only [Cd.row, mask_4, strike_4 w hw, Cd.has, Cd.low, Cd.mid, fixV]
  rw [Bool.eq_iff_iff]
  simp
  try omega
theorem test_10 (w : Int) (hw : 0 ≤ w ∧ w < 4294967296) : Cd.isRow w (Cd.row 10) = rowTest w (Cd.row 10) := by
  unfold Cd.isRow rowTest
  delta Cd.part
  simp only [Cd.row, mask_4, strike_4 w hw, Cd.has, Cd.low, Cd.mid, fixV]
  rw [Bool.eq_iff_iff]
  simp
  try omega
theorem test_45 (w : Int) (hw : 0 ≤ w ∧ w < 4294967296) : Cd.isRow w (Cd.row 45) = rowTest w (Cd.row 45) := by
  unfold Cd.isRow rowTest
  delta Cd.part
  simp only [Cd.row, mask_4, strike_4 w hw, Cd.has, Cd.low, Cd.mid, fixV]
  rw [Bool.eq_iff_iff]
  simp
  try omega
theorem test_11 (w : Int) (hw : 0 ≤ w ∧ w < 4294967296) : Cd.isRow w (Cd.row 11) = rowTest w (Cd.row 11) := by
  unfold Cd.isRow rowTest
  delta Cd.part
  simp only [Cd.row, mask_5, strike_5 w hw, Cd.has, Cd.low, Cd.mid, fixV]
  rw [Bool.eq_iff_iff]
  simp
  try omega
theorem test_13 (w : Int) (hw : 0 ≤ w ∧ w < 4294967296) : Cd.isRow w (Cd.row 13) = rowTest w (Cd.row 13) := by
  unfold Cd.isRow rowTest
  delta Cd.part
  simp only [Cd.row, mask_5, strike_5 w hw, Cd.has, Cd.low, Cd.mid, fixV]
  rw [Bool.eq_iff_iff]
  simp
  try omega
theorem test_15 (w : Int) (hw : 0 ≤ w ∧ w < 4294967296) : Cd.isRow w (Cd.row 15) = rowTest w (Cd.row 15) := by
  unfold Cd.isRow rowTest
  delta Cd.part
  simp only [Cd.row, mask_6, strike_6 w hw, Cd.has, Cd.low, Cd.mid, fixV]
  rw [Bool.eq_iff_iff]
  simp
  try omega
theorem test_16 (w : Int) (hw : 0 ≤ w ∧ w < 4294967296) : Cd.isRow w (Cd.row 16) = rowTest w (Cd.row 16) := by
  unfold Cd.isRow rowTest
  delta Cd.part
  simp only [Cd.row, mask_6, strike_6 w hw, Cd.has, Cd.low, Cd.mid, fixV]
  rw [Bool.eq_iff_iff]
  simp
  try omega
theorem test_17 (w : Int) (hw : 0 ≤ w ∧ w < 4294967296) : Cd.isRow w (Cd.row 17) = rowTest w (Cd.row 17) := by
  unfold Cd.isRow rowTest
  delta Cd.part
  simp only [Cd.row, mask_6, strike_6 w hw, Cd.has, Cd.low, Cd.mid, fixV]
  rw [Bool.eq_iff_iff]
  simp
  try omega
theorem test_18 (w : Int) (hw : 0 ≤ w ∧ w < 4294967296) : Cd.isRow w (Cd.row 18) = rowTest w (Cd.row 18) := by
  unfold Cd.isRow rowTest
  delta Cd.part
  simp only [Cd.row, mask_6, strike_6 w hw, Cd.has, Cd.low, Cd.mid, fixV]
  rw [Bool.eq_iff_iff]
  simp
  try omega
theorem test_29 (w : Int) (hw : 0 ≤ w ∧ w < 4294967296) : Cd.isRow w (Cd.row 29) = rowTest w (Cd.row 29) := by
  unfold Cd.isRow rowTest
  delta Cd.part
  simp only [Cd.row, mask_7, strike_7 w hw, Cd.has, Cd.low, Cd.mid, fixV]
  rw [Bool.eq_iff_iff]
  simp
  try omega
theorem test_30 (w : Int) (hw : 0 ≤ w ∧ w < 4294967296) : Cd.isRow w (Cd.row 30) = rowTest w (Cd.row 30) := by
  unfold Cd.isRow rowTest
  delta Cd.part
  simp only [Cd.row, mask_7, strike_7 w hw, Cd.has, Cd.low, Cd.mid, fixV]
  rw [Bool.eq_iff_iff]
  simp
  try omega
theorem test_31 (w : Int) (hw : 0 ≤ w ∧ w < 4294967296) : Cd.isRow w (Cd.row 31) = rowTest w (Cd.row 31) := by
  unfold Cd.isRow rowTest
  delta Cd.part
  simp only [Cd.row, mask_8, strike_8 w hw, Cd.has, Cd.low, Cd.mid, fixV]
  rw [Bool.eq_iff_iff]
  simp
  try omega
theorem test_32 (w : Int) (hw : 0 ≤ w ∧ w < 4294967296) : Cd.isRow w (Cd.row 32) = rowTest w (Cd.row 32) := by
  unfold Cd.isRow rowTest
  delta Cd.part
  simp only [Cd.row, mask_8, strike_8 w hw, Cd.has, Cd.low, Cd.mid, fixV]
  rw [Bool.eq_iff_iff]
  simp
  try omega
theorem test_35 (w : Int) (hw : 0 ≤ w ∧ w < 4294967296) : Cd.isRow w (Cd.row 35) = rowTest w (Cd.row 35) := by
  unfold Cd.isRow rowTest
  delta Cd.part
  simp only [Cd.row, mask_8, strike_8 w hw, Cd.has, Cd.low, Cd.mid, fixV]
  rw [Bool.eq_iff_iff]
  simp
  try omega
theorem test_36 (w : Int) (hw : 0 ≤ w ∧ w < 4294967296) : Cd.isRow w (Cd.row 36) = rowTest w (Cd.row 36) := by
  unfold Cd.isRow rowTest
  delta Cd.part
  simp only [Cd.row, mask_8, strike_8 w hw, Cd.has, Cd.low, Cd.mid, fixV]
  rw [Bool.eq_iff_iff]
  simp
  try omega
theorem test_37 (w : Int) (hw : 0 ≤ w ∧ w < 4294967296) : Cd.isRow w (Cd.row 37) = rowTest w (Cd.row 37) := by
  unfold Cd.isRow rowTest
  delta Cd.part
  simp only [Cd.row, mask_8, strike_8 w hw, Cd.has, Cd.low, Cd.mid, fixV]
  rw [Bool.eq_iff_iff]
  simp
  try omega
theorem test_38 (w : Int) (hw : 0 ≤ w ∧ w < 4294967296) : Cd.isRow w (Cd.row 38) = rowTest w (Cd.row 38) := by
  unfold Cd.isRow rowTest
  delta Cd.part
  simp only [Cd.row, mask_8, strike_8 w hw, Cd.has, Cd.low, Cd.mid, fixV]
  rw [Bool.eq_iff_iff]
  simp
  try omega
theorem test_39 (w : Int) (hw : 0 ≤ w ∧ w < 4294967296) : Cd.isRow w (Cd.row 39) = rowTest w (Cd.row 39) := by
  unfold Cd.isRow rowTest
  delta Cd.part
  simp only [Cd.row, mask_8, strike_8 w hw, Cd.has, Cd.low, Cd.mid, fixV]
  rw [Bool.eq_iff_iff]
  simp
  try omega
theorem test_40 (w : Int) (hw : 0 ≤ w ∧ w < 4294967296) : Cd.isRow w (Cd.row 40) = rowTest w (Cd.row 40) := by
  unfold Cd.isRow rowTest
  delta Cd.part
  simp only [Cd.row, mask_8, strike_8 w hw, Cd.has, Cd.low, Cd.mid, fixV]
  rw [Bool.eq_iff_iff]
  simp
  try omega
theorem test_41 (w : Int) (hw : 0 ≤ w ∧ w < 4294967296) : Cd.isRow w (Cd.row 41) = rowTest w (Cd.row 41) := by
  unfold Cd.isRow rowTest
  delta Cd.part
  simp only [Cd.row, mask_8, strike_8 w hw, Cd.has, Cd.low, Cd.mid, fixV]
  rw [Bool.eq_iff_iff]
  simp
  try omega
theorem test_46 (w : Int) (hw : 0 ≤ w ∧ w < 4294967296) : Cd.isRow w (Cd.row 46) = rowTest w (Cd.row 46) := by
  unfold Cd.isRow rowTest
  delta Cd.part
  simp only [Cd.row, mask_8, strike_8 w hw, Cd.has, Cd.low, Cd.mid, fixV]
  rw [Bool.eq_iff_iff]
  simp
  try omega
theorem test_47 (w : Int) (hw : 0 ≤ w ∧ w < 4294967296) : Cd.isRow w (Cd.row 47) = rowTest w (Cd.row 47) := by
  unfold Cd.isRow rowTest
  delta Cd.part
  simp only [Cd.row, mask_8, strike_8 w hw, Cd.has, Cd.low, Cd.mid, fixV]
  rw [Bool.eq_iff_iff]
  simp
  try omega
theorem test_48 (w : Int) (hw : 0 ≤ w ∧ w < 4294967296) : Cd.isRow w (Cd.row 48) = rowTest w (Cd.row 48) := by
  unfold Cd.isRow rowTest
  delta Cd.part
  simp only [Cd.row, mask_8, strike_8 w hw, Cd.has, Cd.low, Cd.mid, fixV]
  rw [Bool.eq_iff_iff]
  simp
  try omega
theorem test_49 (w : Int) (hw : 0 ≤ w ∧ w < 4294967296) : Cd.isRow w (Cd.row 49) = rowTest w (Cd.row 49) := by
  unfold Cd.isRow rowTest
  delta Cd.part
  simp only [Cd.row, mask_8, strike_8 w hw, Cd.has, Cd.low, Cd.mid, fixV]
  rw [Bool.eq_iff_iff]
  simp
  try omega
theorem test_50 (w : Int) (hw : 0 ≤ w ∧ w < 4294967296) : Cd.isRow w (Cd.row 50) = rowTest w (Cd.row 50) := by
  unfold Cd.isRow rowTest
  delta Cd.part
  simp only [Cd.row, mask_8, strike_8 w hw, Cd.has, Cd.low, Cd.mid, fixV]
  rw [Bool.eq_iff_iff]
  simp
  try omega
theorem test_51 (w : Int) (hw : 0 ≤ w ∧ w < 4294967296) : Cd.isRow w (Cd.row 51) = rowTest w (Cd.row 51) := by
  unfold Cd.isRow rowTest
  delta Cd.part
  simp only [Cd.row, mask_8, strike_8 w hw, Cd.has, Cd.low, Cd.mid, fixV]
  rw [Bool.eq_iff_iff]
  simp
  try omega
theorem test_52 (w : Int) (hw : 0 ≤ w ∧ w < 4294967296) : Cd.isRow w (Cd.row 52) = rowTest w (Cd.row 52) := by
  unfold Cd.isRow rowTest
  delta Cd.part
  simp only [Cd.row, mask_8, strike_8 w hw, Cd.has, Cd.low, Cd.mid, fixV]
  rw [Bool.eq_iff_iff]
  simp
  try omega
theorem test_53 (w : Int) (hw : 0 ≤ w ∧ w < 4294967296) : Cd.isRow w (Cd.row 53) = rowTest w (Cd.row 53) := by
  unfold Cd.isRow rowTest
  delta Cd.part
  simp only [Cd.row, mask_8, strike_8 w hw, Cd.has, Cd.low, Cd.mid, fixV]
  rw [Bool.eq_iff_iff]
  simp
  try omega
theorem test_33 (w : Int) (hw : 0 ≤ w ∧ w < 4294967296) : Cd.isRow w (Cd.row 33) = rowTest w (Cd.row 33) := by
  unfold Cd.isRow rowTest
  delta Cd.part
  simp only [Cd.row, mask_9, strike_9 w hw, Cd.has, Cd.low, Cd.mid, fixV]
  rw [Bool.eq_iff_iff]
  simp
  try omega
theorem test_34 (w : Int) (hw : 0 ≤ w ∧ w < 4294967296) : Cd.isRow w (Cd.row 34) = rowTest w (Cd.row 34) := by
  unfold Cd.isRow rowTest
  delta Cd.part
  simp only [Cd.row, mask_9, strike_9 w hw, Cd.has, Cd.low, Cd.mid, fixV]
  rw [Bool.eq_iff_iff]
  simp
  try omega
theorem test_42 (w : Int) (hw : 0 ≤ w ∧ w < 4294967296) : Cd.isRow w (Cd.row 42) = rowTest w (Cd.row 42) := by
  unfold Cd.isRow rowTest
  delta Cd.part
  simp only [Cd.row, mask_10, strike_10 w hw, Cd.has, Cd.low, Cd.mid, fixV]
  rw [Bool.eq_iff_iff]
  simp
  try omega
theorem test_43 (w : Int) (hw : 0 ≤ w ∧ w < 4294967296) : Cd.isRow w (Cd.row 43) = rowTest w (Cd.row 43) := by
  unfold Cd.isRow rowTest
  delta Cd.part
  simp only [Cd.row, mask_11, strike_11 w hw, Cd.has, Cd.low, Cd.mid, fixV]
  rw [Bool.eq_iff_iff]
  simp
  try omega
theorem test_44 (w : Int) (hw : 0 ≤ w ∧ w < 4294967296) : Cd.isRow w (Cd.row 44) = rowTest w (Cd.row 44) := by
  unfold Cd.isRow rowTest
  delta Cd.part
  simp only [Cd.row, mask_11, strike_11 w hw, Cd.has, Cd.low, Cd.mid, fixV]
  rw [Bool.eq_iff_iff]
  simp
  try omega
theorem row_test (w : Int) (hw : 0 ≤ w ∧ w < 4294967296) (op : Nat) (h1 : 1 ≤ op) (h2 : op < 54) : Cd.isRow w (Cd.row op) = rowTest w (Cd.row op) := by
  have : op = 1 ∨ op = 2 ∨ op = 3 ∨ op = 4 ∨ op = 5 ∨ op = 6 ∨ op = 7 ∨ op = 8 ∨ op = 9 ∨ op = 10 ∨ op = 11 ∨ op = 12 ∨ op = 13 ∨ op = 14 ∨ op = 15 ∨ op = 16 ∨ op = 17 ∨ op = 18 ∨ op = 19 ∨ op = 20 ∨ op = 21 ∨ op = 22 ∨ op = 23 ∨ op = 24 ∨ op = 25 ∨ op = 26 ∨ op = 27 ∨ op = 28 ∨ op = 29 ∨ op = 30 ∨ op = 31 ∨ op = 32 ∨ op = 33 ∨ op = 34 ∨ op = 35 ∨ op = 36 ∨ op = 37 ∨ op = 38 ∨ op = 39 ∨ op = 40 ∨ op = 41 ∨ op = 42 ∨ op = 43 ∨ op = 44 ∨ op = 45 ∨ op = 46 ∨ op = 47 ∨ op = 48 ∨ op = 49 ∨ op = 50 ∨ op = 51 ∨ op = 52 ∨ op = 53 := by omega
  rcases this with rfl | rfl | rfl | rfl | rfl | rfl | rfl | rfl | rfl | rfl | rfl | rfl | rfl | rfl | rfl | rfl | rfl | rfl | rfl | rfl | rfl | rfl | rfl | rfl | rfl | rfl | rfl | rfl | rfl | rfl | rfl | rfl | rfl | rfl | rfl | rfl | rfl | rfl | rfl | rfl | rfl | rfl | rfl | rfl | rfl | rfl | rfl | rfl | rfl | rfl | rfl | rfl | rfl
  · exact test_1 w hw
  · exact test_2 w hw
  · exact test_3 w hw
  · exact test_4 w hw
  · exact test_5 w hw
  · exact test_6 w hw
  · exact test_7 w hw
  · exact test_8 w hw
  · exact test_9 w hw
  · exact test_10 w hw
  · exact test_11 w hw
  · exact test_12 w hw
  · exact test_13 w hw
  · exact test_14 w hw
  · exact test_15 w hw
  · exact test_16 w hw
  · exact test_17 w hw
  · exact test_18 w hw
  · exact test_19 w hw
  · exact test_20 w hw
  · exact test_21 w hw
  · exact test_22 w hw
  · exact test_23 w hw
  · exact test_24 w hw
  · exact test_25 w hw
  · exact test_26 w hw
  · exact test_27 w hw
  · exact test_28 w hw
  · exact test_29 w hw
  · exact test_30 w hw
  · exact test_31 w hw
  · exact test_32 w hw
  · exact test_33 w hw
  · exact test_34 w hw
  · exact test_35 w hw
  · exact test_36 w hw
  · exact test_37 w hw
  · exact test_38 w hw
  · exact test_39 w hw
  · exact test_40 w hw
  · exact test_41 w hw
  · exact test_42 w hw
  · exact test_43 w hw
  · exact test_44 w hw
  · exact test_45 w hw
  · exact test_46 w hw
  · exact test_47 w hw
  · exact test_48 w hw
  · exact test_49 w hw
  · exact test_50 w hw
  · exact test_51 w hw
  · exact test_52 w hw
  · exact test_53 w hw
end Go.Proofs.YtlbdkcnbgdmpaaaDoor
