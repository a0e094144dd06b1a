import Derived.Test.YtlmnmncdoiealaaGreatDoorKaz04
import Derived.Test.YtlmnmncdoiealaaGreatDoorKaz03
import Derived.Test.YtlmnmncdoiealaaGreatDoorIrOp
import Derived.Test.YtlmnmncdoiealaaGreatDoorSumsD
import Derived.Test.YtlmnmncdoiealaaGreatDoorKaz02
import Derived.Laws.AppendOwn
import Derived.OwnWalk
import Derived.Laws.BitsAllLaws
import Derived.Test.YtlmnmncdoiealaaGreatDoorWide
import Derived.Test.YtlmnmncdoiealaaGreatDoorFoldL

/- ResOf -/
/- The walk of the reference's ResultOf. Printed by gen/resof.py. -/
namespace Go.Proofs.YtlmnmncdoiealaaGreatDoor
open Go.RowKit Go.Deep
set_option linter.unusedVariables false
set_option linter.unusedSimpArgs false

end Go.Proofs.YtlmnmncdoiealaaGreatDoor

/- Mach2 -/
/- The walks of Ready, Over, Where, Watched, May. -/
namespace Go.Proofs.YtlmnmncdoiealaaGreatDoor
open Go.RowKit Go.Deep
set_option linter.unusedVariables false
set_option linter.unusedSimpArgs false

/-- is a state one that a code at pc begins with? -/
def Ir.ready (s : Cp.St) (pc : Int) : Bool := !s.slot && (s.pc == pc) && (s.next == (pc + 4) % 4294967296)
theorem is_overm (k : ByteArray) : (k.toList == [111, 118, 101, 114, 45]) = (Ir.kn k == 4) := Ir.eq_lit2 k 4 (by omega)
end Go.Proofs.YtlmnmncdoiealaaGreatDoor

/- Mach3 -/
/- The walks of Where, May, Wait. -/
namespace Go.Proofs.YtlmnmncdoiealaaGreatDoor
open Go.RowKit Go.Deep
set_option linter.unusedVariables false
set_option linter.unusedSimpArgs false

/-- what Where answers -/
def Ir.whV (o : Ir.Op) (a : Int) : Int × Bool := if kn o.k = 7 then (o.imm, a != 0) else if kn o.k = 9 then (a, true) else (o.imm, kn o.k == 8)
theorem Ir.goes_wh (o : Ir.Op) (a : Int) (h : Ir.leaves (Ir.kn o.k) = true) : Ir.goesTo o a = if (Ir.whV o a).2 = true then some (Ir.whV o a).1 else none := by
  unfold Ir.leaves at h
  have h := of_decide_eq_true h
  unfold Ir.goesTo Ir.whV
  generalize Ir.kn o.k = q at *
  have hq : q = 7 ∨ q = 8 ∨ q = 9 := by omega
  rcases hq with rfl | rfl | rfl
  · simp
  · simp
  · simp
theorem owns_ne {w : World} {base e size n b m : Nat} {v : Value} {xs : List Value} {t : TypeId} {f : Nat → Value} (h : w.ownsRow base e size v n xs) (r : w.rowIs b t m f) (hne : e ≠ t) : ∀ g, v.ownBlock = some g → g ≠ b := by
  rintro g hg rfl
  obtain ⟨c, hb, _⟩ := r
  obtain ⟨_, ⟨h2, h3⟩ | ⟨g2, cap', cur, h2, h3, h4, h5, h6, h7, h8⟩⟩ := h
  · rw [h2] at hg; cases hg
  · rw [h2] at hg
    injection hg with hg
    subst hg
    rw [hb] at h4
    injection h4 with h4
    injection h4 with e1 e2 e3
    exact hne e2.symm
theorem wtL_len (l : List Ir.Wt) : (wtL l).length = l.length * 3 := by
  induction l with
  | nil => rfl
  | cons a r ih =>
    have : wtL (a :: r) = [.int .u32 a.addr, .int .i64 a.size, .int .u32 a.v] ++ wtL r := rfl
    rw [this, List.length_append, ih]
    simp
    omega
theorem wtL_snoc (l : List Ir.Wt) (s : Ir.Wt) : wtL (l ++ [s]) = wtL l ++ [.int .u32 s.addr, .int .i64 s.size, .int .u32 s.v] := by
  unfold wtL
  rw [List.flatMap_append]
  rfl
end Go.Proofs.YtlmnmncdoiealaaGreatDoor

/- Patch -/
/- A byte of a word, patched; bytes that stores left. No program in sight but memory's plain text. -/
namespace Go.Proofs.YtlmnmncdoiealaaGreatDoor
open Go.RowKit
set_option linter.unusedVariables false

theorem nat_patch (v x u : Nat) (hu : u ≤ 24) (hv : v < 4294967296) (hx : x < 256) : (v &&& (4294967295 - 255 * 2 ^ u)) ||| (x * 2 ^ u) = 2 ^ u * (2 ^ 8 * (v / 2 ^ (u + 8)) + x) + v % 2 ^ u := by
  have hp : 255 * 2 ^ u < 2 ^ 32 := by
    have : 2 ^ u ≤ 2 ^ 24 := Nat.pow_le_pow_right (by omega) hu
    omega
  apply Nat.eq_of_testBit_eq
  intro j
  rw [Nat.testBit_or, Nat.testBit_and, show 4294967295 - 255 * 2 ^ u = 2 ^ 32 - (255 * 2 ^ u + 1) by omega, Nat.testBit_two_pow_sub_succ hp,
    Nat.testBit_two_pow_mul_add _ (Nat.mod_lt _ (Nat.two_pow_pos u)), Nat.testBit_mod_two_pow, Nat.testBit_two_pow_mul_add _ (show x < 2 ^ 8 by omega), Nat.testBit_div_two_pow,
    Nat.testBit_mul_two_pow, Nat.testBit_mul_two_pow, show (255 : Nat) = 2 ^ 8 - 1 from rfl, Nat.testBit_two_pow_sub_one]
  by_cases h1 : j < u
  · simp [h1, show ¬ u ≤ j by omega, show j < 32 by omega]
  · rw [if_neg h1]
    by_cases h2 : j - u < 8
    · simp [h2, show u ≤ j by omega]
    · have hx0 : x.testBit (j - u) = false := Nat.testBit_lt_two_pow (Nat.lt_of_lt_of_le hx (Nat.pow_le_pow_right (n := 2) (by omega) (show 8 ≤ j - u by omega)))
      have e : j - u - 8 + (u + 8) = j := by omega
      simp only [h2, hx0, e]
      by_cases h3 : j < 32
      · simp [h3]
      · have hv0 : v.testBit j = false := Nat.testBit_lt_two_pow (Nat.lt_of_lt_of_le hv (Nat.pow_le_pow_right (n := 2) (by omega) (show 32 ≤ j by omega)))
        simp [hv0]
theorem cast_mul_pow (x u : Nat) : ((x * 2 ^ u : Nat) : Int) = (x : Int) * 2 ^ u := by push_cast; rfl
theorem cast_div_pow (x u : Nat) : ((x / 2 ^ u : Nat) : Int) = (x : Int) / 2 ^ u := by push_cast; rfl
theorem cast_mod (x : Nat) : ((x % 256 : Nat) : Int) = (x : Int) % 256 := by omega
theorem int_patch (v s : Int) (u k : Nat) (hu : u ≤ 24) (hv : 0 ≤ v ∧ v < 4294967296) (hs : 0 ≤ s ∧ s < 4294967296) (hk : k ≤ 24) :
    bits .or .u32 (bits .andNot .u32 v (255 * 2 ^ u % 4294967296)) (bits .and .u32 (s / 2 ^ k) 255 * 2 ^ u % 4294967296) = v - v / 2 ^ u % 256 * 2 ^ u + s / 2 ^ k % 256 * 2 ^ u := by
  obtain ⟨V, rfl⟩ := Int.eq_ofNat_of_zero_le hv.1
  obtain ⟨S, rfl⟩ := Int.eq_ofNat_of_zero_le hs.1
  have hpu : 2 ^ u ≤ 2 ^ 24 := Nat.pow_le_pow_right (by omega) hu
  have hpp := Nat.two_pow_pos u
  have e1 : (255 * 2 ^ u % 4294967296 : Int) = ((255 * 2 ^ u : Nat) : Int) := by
    have h1 : ((255 * 2 ^ u : Nat) : Int) < 4294967296 := by omega
    have h2 : (0 : Int) ≤ ((255 * 2 ^ u : Nat) : Int) := by omega
    have h3 := cast_mul_pow 255 u
    rw [show ((255 : Nat) : Int) = 255 from rfl] at h3
    rw [← h3, Int.emod_eq_of_lt h2 h1]
  have e2 : ((S : Int) / 2 ^ k) = ((S / 2 ^ k : Nat) : Int) := (cast_div_pow S k).symm
  have hSk : S / 2 ^ k < 4294967296 := Nat.lt_of_le_of_lt (Nat.div_le_self _ _) (by omega)
  have e3 : bits .and .u32 ((S : Int) / 2 ^ k) 255 = ((S / 2 ^ k % 256 : Nat) : Int) := by
    rw [e2, show (255 : Int) = ((255 : Nat) : Int) from rfl, u32_and_nat _ _ hSk (by omega), show (255 : Nat) = 2 ^ 8 - 1 from rfl, Nat.and_two_pow_sub_one_eq_mod]
  obtain ⟨X, hX⟩ : ∃ X, S / 2 ^ k % 256 = X := ⟨_, rfl⟩
  have hX256 : X < 256 := by rw [← hX]; exact Nat.mod_lt _ (by omega)
  have hXu : X * 2 ^ u < 4294967296 := Nat.lt_of_lt_of_le (Nat.mul_lt_mul_of_lt_of_le hX256 hpu (by omega)) (by decide)
  have e4 : bits .and .u32 ((S : Int) / 2 ^ k) 255 * 2 ^ u % 4294967296 = ((X * 2 ^ u : Nat) : Int) := by
    have h1 : ((X * 2 ^ u : Nat) : Int) < 4294967296 := by omega
    have h2 : (0 : Int) ≤ ((X * 2 ^ u : Nat) : Int) := by omega
    rw [e3, hX, ← cast_mul_pow, Int.emod_eq_of_lt h2 h1]
  have h255 : 255 * 2 ^ u < 4294967296 := by omega
  rw [e1, e4, u32_andNot_nat _ _ (by omega) h255, u32_or_nat _ _ (Nat.lt_of_le_of_lt Nat.and_le_left (by omega)) hXu, nat_patch V X u hu (by omega) hX256]
  have e5 : ((S : Int) / 2 ^ k % 256) = (X : Int) := by rw [e2, ← hX, cast_mod]
  rw [e5]
  have hd : V = 2 ^ u * (2 ^ 8 * (V / 2 ^ (u + 8)) + V / 2 ^ u % 256) + V % 2 ^ u := by
    have h1 := Nat.div_add_mod V (2 ^ u)
    have h2 := Nat.div_add_mod (V / 2 ^ u) 256
    rw [Nat.div_div_eq_div_mul, show 2 ^ u * 256 = 2 ^ (u + 8) by rw [Nat.pow_add]] at h2
    rw [show (2 : Nat) ^ 8 = 256 from rfl, h2, h1]
  have hd2 : ((2 ^ u * (2 ^ 8 * (V / 2 ^ (u + 8)) + X) + V % 2 ^ u : Nat) : Int) = (V : Int) - ((V / 2 ^ u % 256 * 2 ^ u : Nat) : Int) + ((X * 2 ^ u : Nat) : Int) := by
    generalize V / 2 ^ (u + 8) = H at *
    generalize V / 2 ^ u % 256 = O at *
    generalize V % 2 ^ u = L at *
    have : 2 ^ u * (2 ^ 8 * H + X) + L + O * 2 ^ u = V + X * 2 ^ u := by
      rw [hd, Nat.mul_add, Nat.mul_add, Nat.mul_comm O, Nat.mul_comm X]
      omega
    omega
  rw [hd2, cast_mul_pow, cast_mul_pow, cast_mod, cast_div_pow]
/-- bytes with one set -/
def upd (f : Nat → Int) (k : Nat) (x : Int) (j : Nat) : Int := if j = k then x else f j
theorem be_patch {f : Nat → Int} {a n i : Nat} {x : Int} {u : Nat} (hn : n = 1 ∨ n = 2 ∨ n = 4) (hi : i < n) (hu : (u : Int) = 8 * ((n : Int) - 1 - i)) (hf : ∀ k, k < n → 0 ≤ f (a + k) ∧ f (a + k) < 256) :
    be (upd f (a + i) x) a n = be f a n - be f a n / 2 ^ u % 256 * 2 ^ u + x * 2 ^ u := by
  have h0 := hf 0 (by omega)
  rcases hn with rfl | rfl | rfl
  · obtain rfl : i = 0 := by omega
    obtain rfl : u = 0 := by omega
    simp only [be, upd, Nat.add_zero] at *
    simp
    omega
  · have h1 := hf 1 (by omega)
    have hc : i = 0 ∨ i = 1 := by omega
    rcases hc with rfl | rfl
    · obtain rfl : u = 8 := by omega
      simp only [be, upd, Nat.add_zero] at *
      simp
      omega
    · obtain rfl : u = 0 := by omega
      simp only [be, upd, Nat.add_zero] at *
      simp
      omega
  · have h1 := hf 1 (by omega)
    have h2 := hf 2 (by omega)
    have h3 := hf 3 (by omega)
    have hc : i = 0 ∨ i = 1 ∨ i = 2 ∨ i = 3 := by omega
    rcases hc with rfl | rfl | rfl | rfl
    · obtain rfl : u = 24 := by omega
      simp only [be, upd, Nat.add_zero] at *
      simp
      omega
    · obtain rfl : u = 16 := by omega
      simp only [be, upd, Nat.add_zero] at *
      simp
      omega
    · obtain rfl : u = 8 := by omega
      simp only [be, upd, Nat.add_zero] at *
      simp
      omega
    · obtain rfl : u = 0 := by omega
      simp only [be, upd, Nat.add_zero] at *
      simp
      omega
end Go.Proofs.YtlmnmncdoiealaaGreatDoor

/- Mach4 -/
/- The walk of a machine's Load. -/
namespace Go.Proofs.YtlmnmncdoiealaaGreatDoor
open Go.RowKit Go.Deep
set_option linter.unusedVariables false
set_option linter.unusedSimpArgs false

theorem wtL_get (l : List Ir.Wt) : ∀ i, (hi : i < l.length) → (wtL l)[i * 3]? = some (.int .u32 l[i].addr) ∧ (wtL l)[i * 3 + 1]? = some (.int .i64 l[i].size) ∧ (wtL l)[i * 3 + 2]? = some (.int .u32 l[i].v) := by
  induction l with
  | nil => intro i h; simp at h
  | cons o r ih =>
    intro i h
    have e : wtL (o :: r) = [.int .u32 o.addr, .int .i64 o.size, .int .u32 o.v] ++ wtL r := rfl
    rw [e]
    cases i with
    | zero => exact ⟨rfl, rfl, rfl⟩
    | succ i =>
      have := ih i (by simpa using h)
      rw [List.getElem?_append_right (by simp; omega), List.getElem?_append_right (by simp; omega), List.getElem?_append_right (by simp; omega)]
      simp only [List.length_cons, List.length_nil, List.getElem_cons_succ]
      rw [show (i + 1) * 3 - (0 + 1 + 1 + 1) = i * 3 by omega, show (i + 1) * 3 + 1 - (0 + 1 + 1 + 1) = i * 3 + 1 by omega, show (i + 1) * 3 + 2 - (0 + 1 + 1 + 1) = i * 3 + 2 by omega]
      exact this
/-- the stores that wait, as they are read -/
def WtsAt (w : World) (A : Option Addr) (n cap : Nat) (l : List Ir.Wt) : Prop := l.length = n ∧ n ≤ cap ∧ cap ≤ 9223372036854775807 ∧ (n = 0 ∨ ∃ g, A = some ⟨g, 0, none⟩ ∧ ∀ i, (hi : i < l.length) → w.cell? ⟨g, i * 3, none⟩ = some (.int .u32 l[i].addr) ∧ w.cell? ⟨g, i * 3 + 1, none⟩ = some (.int .i64 l[i].size) ∧ w.cell? ⟨g, i * 3 + 2, none⟩ = some (.int .u32 l[i].v))
theorem WtsAt.keep {w w' : World} {A : Option Addr} {n cap : Nat} {l : List Ir.Wt} (h : WtsAt w A n cap l) (k : Keeps (fun _ => False) w w') : WtsAt w' A n cap l := by
  obtain ⟨h1, h2, h3, h4 | ⟨g, h5, h6⟩⟩ := h
  · exact ⟨h1, h2, h3, .inl h4⟩
  · refine ⟨h1, h2, h3, .inr ⟨g, h5, fun i hi => ?_⟩⟩
    obtain ⟨a, b, c⟩ := h6 i hi
    exact ⟨k.cell' a (fun h => h), k.cell' b (fun h => h), k.cell' c (fun h => h)⟩
/-- bytes of which the first are as stores that wait left them -/
def mixA (m : Nat → Int) (ws : List Ir.Wt) (a i : Nat) (j : Nat) : Int := if j < a + i then Ir.pend m ws j else m j
def mixB (m : Nat → Int) (ws : List Ir.Wt) (a i k : Nat) (j : Nat) : Int := if j < a + i then Ir.pend m ws j else if j = a + i then Ir.pend m (ws.take k) j else m j
theorem be_ext {f g : Nat → Int} {a : Nat} : ∀ {n : Nat}, (∀ j, j < n → f (a + j) = g (a + j)) → be f a n = be g a n
  | 0, _ => rfl
  | n + 1, h => by rw [be, be, be_ext (fun j hj => h j (by omega)), h n (by omega)]
theorem sb_rng (v : Int) (n i : Nat) : 0 ≤ sb v n i ∧ sb v n i < 256 := by unfold sb; omega
theorem pend_rng {m : Nat → Int} (hm : ∀ j, j < 16384 → 0 ≤ m j ∧ m j < 256) : ∀ (ws : List Ir.Wt), ∀ j, j < 16384 → 0 ≤ Ir.pend m ws j ∧ Ir.pend m ws j < 256 := by
  intro ws
  induction ws generalizing m with
  | nil => exact hm
  | cons s r ih =>
    refine ih (m := stTo m s.addr.toNat s.size.toNat s.v s.size.toNat) (fun j hj => ?_)
    unfold stTo
    split
    · exact sb_rng _ _ _
    · exact hm j hj
theorem pend_snoc (m : Nat → Int) (ws : List Ir.Wt) (k : Nat) (hk : k < ws.length) : Ir.pend m (ws.take (k + 1)) = stTo (Ir.pend m (ws.take k)) ws[k].addr.toNat ws[k].size.toNat ws[k].v ws[k].size.toNat := by
  rw [List.take_succ_eq_append_getElem hk]
  unfold Ir.pend
  rw [List.foldl_append]
  rfl
theorem mixB_rng {m : Nat → Int} (hm : ∀ j, j < 16384 → 0 ≤ m j ∧ m j < 256) (ws : List Ir.Wt) (a i k j : Nat) (hj : j < 16384) : 0 ≤ mixB m ws a i k j ∧ mixB m ws a i k j < 256 := by
  unfold mixB
  split
  · exact pend_rng hm _ _ hj
  · split
    · exact pend_rng hm _ _ hj
    · exact hm _ hj
theorem mixB_zero (m : Nat → Int) (ws : List Ir.Wt) (a i : Nat) : mixB m ws a i 0 = mixA m ws a i := by
  funext j
  unfold mixB mixA
  split
  · rfl
  · split
    · rfl
    · rfl
theorem mixB_all (m : Nat → Int) (ws : List Ir.Wt) (a i N : Nat) (h : ws.length = N) : mixB m ws a i N = mixA m ws a (i + 1) := by
  funext j
  unfold mixB mixA
  rw [← h, List.take_length]
  by_cases h1 : j < a + i
  · rw [if_pos h1, if_pos (by omega)]
  · rw [if_neg h1]
    by_cases h2 : j = a + i
    · rw [if_pos h2, if_pos (by omega)]
    · rw [if_neg h2, if_neg (by omega)]
theorem mixB_in {m : Nat → Int} {ws : List Ir.Wt} {a i k : Nat} {sa sz sv : Int} (hk : k < ws.length) (hs : ws[k] = ⟨sa, sz, sv⟩) (h0 : 0 ≤ sa) (h1 : sa ≤ (a : Int) + i) (h2 : (a : Int) + i < sa + sz) (u2 : Nat) (hu2 : (u2 : Int) = 8 * (sz - 1 - ((a : Int) + i - sa))) :
    mixB m ws a i (k + 1) = upd (mixB m ws a i k) (a + i) (sv / 2 ^ u2 % 256) := by
  funext j
  unfold mixB upd
  simp only []
  by_cases h3 : j < a + i
  · rw [if_pos h3, if_neg (by omega), if_pos h3]
  · rw [if_neg h3, if_neg h3]
    by_cases h4 : j = a + i
    · rw [if_pos h4, if_pos h4, pend_snoc m ws k hk, hs]
      unfold stTo
      simp only
      rw [if_pos (by omega)]
      unfold sb
      rw [show 8 * (sz.toNat - 1 - (j - sa.toNat)) = u2 by omega]
    · rw [if_neg h4, if_neg h4, if_neg h4]
theorem mixB_out {m : Nat → Int} {ws : List Ir.Wt} {a i k : Nat} {sa sz sv : Int} (hk : k < ws.length) (hs : ws[k] = ⟨sa, sz, sv⟩) (h0 : 0 ≤ sa) (h : ¬ (sa ≤ (a : Int) + i ∧ (a : Int) + i < sa + sz)) :
    mixB m ws a i (k + 1) = mixB m ws a i k := by
  funext j
  unfold mixB
  by_cases h3 : j < a + i
  · rw [if_pos h3, if_pos h3]
  · rw [if_neg h3, if_neg h3]
    by_cases h4 : j = a + i
    · rw [if_pos h4, if_pos h4, pend_snoc m ws k hk, hs]
      unfold stTo
      simp only
      rw [if_neg (by omega)]
    · rw [if_neg h4, if_neg h4]
end Go.Proofs.YtlmnmncdoiealaaGreatDoor

/- MachOk -/
/- A machine stays in its ranges. -/
namespace Go.Proofs.YtlmnmncdoiealaaGreatDoor
open Go.RowKit Go.Deep
set_option linter.unusedVariables false
set_option linter.unusedSimpArgs false

theorem wide_rng {v n : Int} {s : Bool} (h : 0 ≤ v ∧ v < 4294967296) : 0 ≤ Wd.wide v n s ∧ Wd.wide v n s < 4294967296 := by
  unfold Wd.wide
  split
  · exact h
  · have h1 : 0 ≤ v % 2 ^ n.toNat := Int.emod_nonneg _ (Int.ne_of_gt (Int.pow_pos (by omega)))
    have h2 : v % 2 ^ n.toNat ≤ v := by
      have h3 := Int.mul_ediv_add_emod v (2 ^ n.toNat)
      have h4 : 0 ≤ (2 : Int) ^ n.toNat * (v / 2 ^ n.toNat) := Int.mul_nonneg (Int.le_of_lt (Int.pow_pos (by omega))) (Int.ediv_nonneg h.1 (Int.le_of_lt (Int.pow_pos (by omega))))
      omega
    split <;> omega
theorem quo_rng {a b : Int} {s : Bool} (ha : 0 ≤ a ∧ a < 4294967296) (hb : 0 ≤ b ∧ b < 4294967296) : 0 ≤ Wd.quo a b s ∧ Wd.quo a b s < 4294967296 := by
  unfold Wd.quo
  split
  · omega
  · split
    · omega
    · have h1 : 0 ≤ a / b := Int.ediv_nonneg ha.1 hb.1
      have h2 : a / b ≤ a := Int.ediv_le_self _ ha.1
      omega
theorem rst_rng {a b : Int} {s : Bool} (ha : 0 ≤ a ∧ a < 4294967296) (hb : 0 ≤ b ∧ b < 4294967296) : 0 ≤ Wd.rst a b s ∧ Wd.rst a b s < 4294967296 := by
  unfold Wd.rst
  split
  · omega
  · split
    · omega
    · have h1 : 0 ≤ a % b := Int.emod_nonneg _ (by assumption)
      have h2 : a % b < b := Int.emod_lt_of_pos _ (by omega)
      omega
theorem value_rng (c : Nat) {a b d : Int} (ha : 0 ≤ a ∧ a < 4294967296) (hb : 0 ≤ b ∧ b < 4294967296) (hd : 0 ≤ d ∧ d < 4294967296) : 0 ≤ Ir.value c a b d ∧ Ir.value c a b d < 4294967296 := by
  unfold Ir.value
  split
  · split
    · exact hd
    · split
      · exact quo_rng ha hb
      · exact rst_rng ha hb
  · exact sumsV_rng c ha hb
theorem loadV_rng {m : Nat → Int} (hm : ∀ j, j < 16384 → 0 ≤ m j ∧ m j < 256) (ws : List Ir.Wt) {ad b : Int} (h0 : 0 ≤ ad) (h : rightC ad b.natAbs = 0) : 0 ≤ Ir.loadV m ws ad b ∧ Ir.loadV m ws ad b < 4294967296 := by
  obtain ⟨hn, hal, hlt⟩ := rightC_ok h
  have hn3 : b.natAbs = 1 ∨ b.natAbs = 2 ∨ b.natAbs = 4 := by omega
  unfold Ir.loadV
  refine wide_rng ?_
  have hfit : ad + b.natAbs ≤ 16384 := by
    generalize b.natAbs = n at *
    rcases hn3 with rfl | rfl | rfl <;> omega
  have h1 := be_rng (Ir.pend m ws) ad.toNat b.natAbs (fun j hj => pend_rng hm ws _ (by omega))
  have h2 : (256 : Int) ^ b.natAbs ≤ 4294967296 := by rcases hn3 with h3 | h3 | h3 <;> rw [h3] <;> decide
  exact ⟨h1.1, Int.lt_of_lt_of_le h1.2 h2⟩
theorem setX_ok {W : Int → Bool} {c : Ir.Mc} (h : Ir.McOk W c) (d : Int) {v : Int} (hv : 0 ≤ v ∧ v < 4294967296) : Ir.McOk W { c with X := Ir.setX c.X d v } := by
  refine ⟨fun k hk => ?_, h.ws⟩
  show 0 ≤ Ir.setX c.X d v k ∧ Ir.setX c.X d v k < 4294967296
  unfold Ir.setX
  split
  · exact hv
  · exact h.X k hk
theorem rg_ok {W : Int → Bool} {c : Ir.Mc} (h : Ir.McOk W c) {n : Int} (hn : 0 ≤ n ∧ n < 64) : 0 ≤ Ir.rg c.X n ∧ Ir.rg c.X n < 4294967296 := h.X _ (by omega)
theorem doOp_ok {m : Nat → Int} (hm : ∀ j, j < 16384 → 0 ≤ m j ∧ m j < 256) {W : Int → Bool} {c c' : Ir.Mc} {o : Ir.Op} (h : Ir.McOk W c) (hi : Ir.OpIn o) (hnl : Ir.leaves (Ir.kn o.k) = false) (hd : Ir.doOp m W c o = some c') : Ir.McOk W c' ∧ c'.ws.length ≤ c.ws.length + 1 := by
  have ha := rg_ok h hi.a
  have hle := Ir.kn_le o.k
  unfold Ir.leaves at hnl
  have hnl := of_decide_eq_false hnl
  have hk := hi.k
  unfold Ir.doOp at hd
  split at hd
  · injection hd with hd; subst hd
    exact ⟨setX_ok h _ hi.imm, by simp⟩
  split at hd
  · injection hd with hd; subst hd
    exact ⟨setX_ok h _ ha, by simp⟩
  split at hd
  · split at hd
    · cases hd
    · injection hd with hd; subst hd
      exact ⟨h, by simp⟩
  split at hd
  · split at hd
    · rename_i h5
      injection hd with hd; subst hd
      exact ⟨setX_ok h _ (loadV_rng hm c.ws (by unfold Ir.adr; omega) h5), by simp⟩
    · cases hd
  rename_i h5
  have hb := rg_ok h (hi.b h5)
  split at hd
  · split at hd
    · rename_i h6 h7
      injection hd with hd; subst hd
      refine ⟨⟨h.X, fun s hs => ?_⟩, by simp⟩
      rcases List.mem_append.1 hs with hs | hs
      · exact h.ws s hs
      · simp only [List.mem_singleton] at hs
        subst hs
        exact ⟨h7.1, by show 0 ≤ Ir.adr _ _; unfold Ir.adr; omega, hb, h7.2⟩
    · cases hd
  · injection hd with hd; subst hd
    have hd1 := hi.d (by omega)
    exact ⟨setX_ok h _ (value_rng _ ha hb (rg_ok h (by omega))), by simp⟩
end Go.Proofs.YtlmnmncdoiealaaGreatDoor
