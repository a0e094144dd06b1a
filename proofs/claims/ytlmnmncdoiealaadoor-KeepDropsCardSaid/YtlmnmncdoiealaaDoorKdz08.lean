import Derived.Test.YtlmnmncdoiealaaDoorKdz07
import Derived.Test.YtlmnmncdoiealaaDoorKdz06
import Derived.Test.YtlmnmncdoiealaaDoorIrOp
import Derived.Test.YtlmnmncdoiealaaDoorSumsD
import Derived.Test.YtlmnmncdoiealaaDoorKdz05
import Derived.Laws.AppendOwn
import Derived.OwnWalk
import Derived.Laws.BitsAllLaws

/- ResOf2 -/
/- The walk of the reference's ResultOf. Printed by gen/resof.py. -/
namespace Go.Proofs.YtlmnmncdoiealaaDoor
open Go.RowKit Go.Deep
set_option linter.unusedVariables false
set_option linter.unusedSimpArgs false

end Go.Proofs.YtlmnmncdoiealaaDoor

/- ResOf -/
/- The walk of the reference's ResultOf. Printed by gen/resof.py. -/
namespace Go.Proofs.YtlmnmncdoiealaaDoor
open Go.RowKit Go.Deep
set_option linter.unusedVariables false
set_option linter.unusedSimpArgs false

end Go.Proofs.YtlmnmncdoiealaaDoor

/- Mach2 -/
/- The walks of Ready, Over, Where, Watched, May. -/
namespace Go.Proofs.YtlmnmncdoiealaaDoor
open Go.RowKit Go.Deep
set_option linter.unusedVariables false
set_option linter.unusedSimpArgs false

/-- is a state one that a code at pc begins with? -/
def Ir.ready (s : Cp.St) (pc : Int) : Bool := !s.slot && (s.pc == pc) && (s.next == (pc + 4) % 4294967296)
theorem is_overm (k : ByteArray) : (k.toList == [111, 118, 101, 114, 45]) = (Ir.kn k == 4) := Ir.eq_lit2 k 4 (by omega)
/-- what is watched, as it lies -/
def WatchAt (w : World) (pw : Nat) (W : Int → Bool) : Prop := ∃ es c, w.heap[pw]? = some (.map es c) ∧ ∀ w' : World, w'.heap[pw]? = some (.map es c) → ∀ p : Int, 0 ≤ p → p < 64 →
  (Instr.lookup 84 (.map (some pw)) (.int .i64 p) false).run Tryd.prog w' = .ok (.bool (W p)) w'
theorem WatchAt.keep {S : Nat → Prop} {w w' : World} {pw : Nat} {W : Int → Bool} (h : WatchAt w pw W) (k : Keeps S w w') (hs : ¬ S pw) : WatchAt w' pw W := by
  obtain ⟨es, c, h1, h2⟩ := h
  exact ⟨es, c, k.map h1 hs, h2⟩
theorem WatchAt.look {w : World} {pw : Nat} {W : Int → Bool} (h : WatchAt w pw W) (p : Int) (h0 : 0 ≤ p) (h1 : p < 64) : (Instr.lookup 84 (.map (some pw)) (.int .i64 p) false).run Tryd.prog w = .ok (.bool (W p)) w := by
  obtain ⟨es, c, h2, h3⟩ := h
  exact h3 w h2 p h0 h1
theorem WatchAt.lt {w : World} {pw : Nat} {W : Int → Bool} (h : WatchAt w pw W) : pw < w.heap.size := by
  obtain ⟨es, c, h2, h3⟩ := h
  exact (Array.getElem?_eq_some_iff.1 h2).1
set_option maxRecDepth 100000 in
theorem watched_any (r pb pw ph cp : Nat) (m : Nat → Int) (W : Int → Bool) (a : Int) (w : World) (R : RamAt w r pb pw ph cp m) (hW : WatchAt w pw W) (ha : 0 ≤ a ∧ a < 16384) :
    Calls Tryd.prog 23 #[.pointer (some ⟨r, 0, none⟩), .int .u32 a] w fun e w' => e = .returned (.bool (W (a / 256))) ∧ w = w' := by
  have hb : w.cell? ⟨r, 1, none⟩ = some (.map (some pw)) := by simp [World.cell?, R.box]
  have hl := hW.look (a / 256) (by omega) (by omega)
  clear R hW
  generalize W (a / 256) = q at *
  go_enter Tryd.func23, Tryd.ntmps23
  go_wp2_with fail
  go_ret
  exact ⟨rfl, rfl⟩
end Go.Proofs.YtlmnmncdoiealaaDoor

/- Mach3 -/
/- The walks of Where, May, Wait. -/
namespace Go.Proofs.YtlmnmncdoiealaaDoor
open Go.RowKit Go.Deep
set_option linter.unusedVariables false
set_option linter.unusedSimpArgs false

/-- what Where answers -/
def Ir.whV (o : Ir.Op) (a : Int) : Int × Bool := if kn o.k = 7 then (o.imm, a != 0) else if kn o.k = 9 then (a, true) else (o.imm, kn o.k == 8)
theorem Ir.goes_wh (o : Ir.Op) (a : Int) (h : Ir.leaves (Ir.kn o.k) = true) : Ir.goesTo o a = if (Ir.whV o a).2 = true then some (Ir.whV o a).1 else none := by
  unfold Ir.leaves at h
  have h := of_decide_eq_true h
  unfold Ir.goesTo Ir.whV
  generalize Ir.kn o.k = q at *
  have hq : q = 7 ∨ q = 8 ∨ q = 9 := by omega
  rcases hq with rfl | rfl | rfl
  · simp
  · simp
  · simp
theorem owns_ne {w : World} {base e size n b m : Nat} {v : Value} {xs : List Value} {t : TypeId} {f : Nat → Value} (h : w.ownsRow base e size v n xs) (r : w.rowIs b t m f) (hne : e ≠ t) : ∀ g, v.ownBlock = some g → g ≠ b := by
  rintro g hg rfl
  obtain ⟨c, hb, _⟩ := r
  obtain ⟨_, ⟨h2, h3⟩ | ⟨g2, cap', cur, h2, h3, h4, h5, h6, h7, h8⟩⟩ := h
  · rw [h2] at hg; cases hg
  · rw [h2] at hg
    injection hg with hg
    subst hg
    rw [hb] at h4
    injection h4 with h4
    injection h4 with e1 e2 e3
    exact hne e2.symm
theorem wtL_len (l : List Ir.Wt) : (wtL l).length = l.length * 3 := by
  induction l with
  | nil => rfl
  | cons a r ih =>
    have : wtL (a :: r) = [.int .u32 a.addr, .int .i64 a.size, .int .u32 a.v] ++ wtL r := rfl
    rw [this, List.length_append, ih]
    simp
    omega
theorem wtL_snoc (l : List Ir.Wt) (s : Ir.Wt) : wtL (l ++ [s]) = wtL l ++ [.int .u32 s.addr, .int .i64 s.size, .int .u32 s.v] := by
  unfold wtL
  rw [List.flatMap_append]
  rfl
end Go.Proofs.YtlmnmncdoiealaaDoor

/- Patch -/
/- A byte of a word, patched; bytes that stores left. No program in sight but memory's plain text. -/
namespace Go.Proofs.YtlmnmncdoiealaaDoor
open Go.RowKit
set_option linter.unusedVariables false

theorem nat_patch (v x u : Nat) (hu : u ≤ 24) (hv : v < 4294967296) (hx : x < 256) : (v &&& (4294967295 - 255 * 2 ^ u)) ||| (x * 2 ^ u) = 2 ^ u * (2 ^ 8 * (v / 2 ^ (u + 8)) + x) + v % 2 ^ u := by
  have hp : 255 * 2 ^ u < 2 ^ 32 := by
    have : 2 ^ u ≤ 2 ^ 24 := Nat.pow_le_pow_right (by omega) hu
    omega
  apply Nat.eq_of_testBit_eq
  intro j
  rw [Nat.testBit_or, Nat.testBit_and, show 4294967295 - 255 * 2 ^ u = 2 ^ 32 - (255 * 2 ^ u + 1) by omega, Nat.testBit_two_pow_sub_succ hp,
    Nat.testBit_two_pow_mul_add _ (Nat.mod_lt _ (Nat.two_pow_pos u)), Nat.testBit_mod_two_pow, Nat.testBit_two_pow_mul_add _ (show x < 2 ^ 8 by omega), Nat.testBit_div_two_pow,
    Nat.testBit_mul_two_pow, Nat.testBit_mul_two_pow, show (255 : Nat) = 2 ^ 8 - 1 from rfl, Nat.testBit_two_pow_sub_one]
  by_cases h1 : j < u
  · simp [h1, show ¬ u ≤ j by omega, show j < 32 by omega]
  · rw [if_neg h1]
    by_cases h2 : j - u < 8
    · simp [h2, show u ≤ j by omega]
    · have hx0 : x.testBit (j - u) = false := Nat.testBit_lt_two_pow (Nat.lt_of_lt_of_le hx (Nat.pow_le_pow_right (n := 2) (by omega) (show 8 ≤ j - u by omega)))
      have e : j - u - 8 + (u + 8) = j := by omega
      simp only [h2, hx0, e]
      by_cases h3 : j < 32
      · simp [h3]
      · have hv0 : v.testBit j = false := Nat.testBit_lt_two_pow (Nat.lt_of_lt_of_le hv (Nat.pow_le_pow_right (n := 2) (by omega) (show 32 ≤ j by omega)))
        simp [hv0]
theorem cast_mul_pow (x u : Nat) : ((x * 2 ^ u : Nat) : Int) = (x : Int) * 2 ^ u := by push_cast; rfl
theorem cast_div_pow (x u : Nat) : ((x / 2 ^ u : Nat) : Int) = (x : Int) / 2 ^ u := by push_cast; rfl
theorem cast_mod (x : Nat) : ((x % 256 : Nat) : Int) = (x : Int) % 256 := by omega
theorem int_patch (v s : Int) (u k : Nat) (hu : u ≤ 24) (hv : 0 ≤ v ∧ v < 4294967296) (hs : 0 ≤ s ∧ s < 4294967296) (hk : k ≤ 24) :
    bits .or .u32 (bits .andNot .u32 v (255 * 2 ^ u % 4294967296)) (bits .and .u32 (s / 2 ^ k) 255 * 2 ^ u % 4294967296) = v - v / 2 ^ u % 256 * 2 ^ u + s / 2 ^ k % 256 * 2 ^ u := by
  obtain ⟨V, rfl⟩ := Int.eq_ofNat_of_zero_le hv.1
  obtain ⟨S, rfl⟩ := Int.eq_ofNat_of_zero_le hs.1
  have hpu : 2 ^ u ≤ 2 ^ 24 := Nat.pow_le_pow_right (by omega) hu
  have hpp := Nat.two_pow_pos u
  have e1 : (255 * 2 ^ u % 4294967296 : Int) = ((255 * 2 ^ u : Nat) : Int) := by
    have h1 : ((255 * 2 ^ u : Nat) : Int) < 4294967296 := by omega
    have h2 : (0 : Int) ≤ ((255 * 2 ^ u : Nat) : Int) := by omega
    have h3 := cast_mul_pow 255 u
    rw [show ((255 : Nat) : Int) = 255 from rfl] at h3
    rw [← h3, Int.emod_eq_of_lt h2 h1]
  have e2 : ((S : Int) / 2 ^ k) = ((S / 2 ^ k : Nat) : Int) := (cast_div_pow S k).symm
  have hSk : S / 2 ^ k < 4294967296 := Nat.lt_of_le_of_lt (Nat.div_le_self _ _) (by omega)
  have e3 : bits .and .u32 ((S : Int) / 2 ^ k) 255 = ((S / 2 ^ k % 256 : Nat) : Int) := by
    rw [e2, show (255 : Int) = ((255 : Nat) : Int) from rfl, u32_and_nat _ _ hSk (by omega), show (255 : Nat) = 2 ^ 8 - 1 from rfl, Nat.and_two_pow_sub_one_eq_mod]
  obtain ⟨X, hX⟩ : ∃ X, S / 2 ^ k % 256 = X := ⟨_, rfl⟩
  have hX256 : X < 256 := by rw [← hX]; exact Nat.mod_lt _ (by omega)
  have hXu : X * 2 ^ u < 4294967296 := Nat.lt_of_lt_of_le (Nat.mul_lt_mul_of_lt_of_le hX256 hpu (by omega)) (by decide)
  have e4 : bits .and .u32 ((S : Int) / 2 ^ k) 255 * 2 ^ u % 4294967296 = ((X * 2 ^ u : Nat) : Int) := by
    have h1 : ((X * 2 ^ u : Nat) : Int) < 4294967296 := by omega
    have h2 : (0 : Int) ≤ ((X * 2 ^ u : Nat) : Int) := by omega
    rw [e3, hX, ← cast_mul_pow, Int.emod_eq_of_lt h2 h1]
  have h255 : 255 * 2 ^ u < 4294967296 := by omega
  rw [e1, e4, u32_andNot_nat _ _ (by omega) h255, u32_or_nat _ _ (Nat.lt_of_le_of_lt Nat.and_le_left (by omega)) hXu, nat_patch V X u hu (by omega) hX256]
  have e5 : ((S : Int) / 2 ^ k % 256) = (X : Int) := by rw [e2, ← hX, cast_mod]
  rw [e5]
  have hd : V = 2 ^ u * (2 ^ 8 * (V / 2 ^ (u + 8)) + V / 2 ^ u % 256) + V % 2 ^ u := by
    have h1 := Nat.div_add_mod V (2 ^ u)
    have h2 := Nat.div_add_mod (V / 2 ^ u) 256
    rw [Nat.div_div_eq_div_mul, show 2 ^ u * 256 = 2 ^ (u + 8) by rw [Nat.pow_add]] at h2
    rw [show (2 : Nat) ^ 8 = 256 from rfl, h2, h1]
  have hd2 : ((2 ^ u * (2 ^ 8 * (V / 2 ^ (u + 8)) + X) + V % 2 ^ u : Nat) : Int) = (V : Int) - ((V / 2 ^ u % 256 * 2 ^ u : Nat) : Int) + ((X * 2 ^ u : Nat) : Int) := by
    generalize V / 2 ^ (u + 8) = H at *
    generalize V / 2 ^ u % 256 = O at *
    generalize V % 2 ^ u = L at *
    have : 2 ^ u * (2 ^ 8 * H + X) + L + O * 2 ^ u = V + X * 2 ^ u := by
      rw [hd, Nat.mul_add, Nat.mul_add, Nat.mul_comm O, Nat.mul_comm X]
      omega
    omega
  rw [hd2, cast_mul_pow, cast_mul_pow, cast_mod, cast_div_pow]
/-- bytes with one set -/
def upd (f : Nat → Int) (k : Nat) (x : Int) (j : Nat) : Int := if j = k then x else f j
theorem be_patch {f : Nat → Int} {a n i : Nat} {x : Int} {u : Nat} (hn : n = 1 ∨ n = 2 ∨ n = 4) (hi : i < n) (hu : (u : Int) = 8 * ((n : Int) - 1 - i)) (hf : ∀ k, k < n → 0 ≤ f (a + k) ∧ f (a + k) < 256) :
    be (upd f (a + i) x) a n = be f a n - be f a n / 2 ^ u % 256 * 2 ^ u + x * 2 ^ u := by
  have h0 := hf 0 (by omega)
  rcases hn with rfl | rfl | rfl
  · obtain rfl : i = 0 := by omega
    obtain rfl : u = 0 := by omega
    simp only [be, upd, Nat.add_zero] at *
    simp
    omega
  · have h1 := hf 1 (by omega)
    have hc : i = 0 ∨ i = 1 := by omega
    rcases hc with rfl | rfl
    · obtain rfl : u = 8 := by omega
      simp only [be, upd, Nat.add_zero] at *
      simp
      omega
    · obtain rfl : u = 0 := by omega
      simp only [be, upd, Nat.add_zero] at *
      simp
      omega
  · have h1 := hf 1 (by omega)
    have h2 := hf 2 (by omega)
    have h3 := hf 3 (by omega)
    have hc : i = 0 ∨ i = 1 ∨ i = 2 ∨ i = 3 := by omega
    rcases hc with rfl | rfl | rfl | rfl
    · obtain rfl : u = 24 := by omega
      simp only [be, upd, Nat.add_zero] at *
      simp
      omega
    · obtain rfl : u = 16 := by omega
      simp only [be, upd, Nat.add_zero] at *
      simp
      omega
    · obtain rfl : u = 8 := by omega
      simp only [be, upd, Nat.add_zero] at *
      simp
      omega
    · obtain rfl : u = 0 := by omega
      simp only [be, upd, Nat.add_zero] at *
      simp
      omega
end Go.Proofs.YtlmnmncdoiealaaDoor
