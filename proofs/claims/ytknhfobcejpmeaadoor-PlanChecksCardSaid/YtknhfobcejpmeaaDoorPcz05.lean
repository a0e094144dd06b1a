import Derived.Test.YtknhfobcejpmeaaDoorMachDefs
import Derived.Laws.BitsAllLaws
import Derived.Test.YtknhfobcejpmeaaDoorPcz04
import Derived.Test.YtknhfobcejpmeaaDoorWide
import Derived.Test.YtknhfobcejpmeaaDoorSumsD
import Derived.Test.YtknhfobcejpmeaaDoorPcz03

/- Patch -/
/- A byte of a word, patched; bytes that stores left. No program in sight but memory's plain text. -/
namespace Go.Proofs.YtknhfobcejpmeaaDoor
open Go.RowKit
set_option linter.unusedVariables false

theorem nat_patch (v x u : Nat) (hu : u ≤ 24) (hv : v < 4294967296) (hx : x < 256) : (v &&& (4294967295 - 255 * 2 ^ u)) ||| (x * 2 ^ u) = 2 ^ u * (2 ^ 8 * (v / 2 ^ (u + 8)) + x) + v % 2 ^ u := by
  have hp : 255 * 2 ^ u < 2 ^ 32 := by
    have : 2 ^ u ≤ 2 ^ 24 := Nat.pow_le_pow_right (by omega) hu
    omega
  apply Nat.eq_of_testBit_eq
  intro j
  rw [Nat.testBit_or, Nat.testBit_and, show 4294967295 - 255 * 2 ^ u = 2 ^ 32 - (255 * 2 ^ u + 1) by omega, Nat.testBit_two_pow_sub_succ hp,
    Nat.testBit_two_pow_mul_add _ (Nat.mod_lt _ (Nat.two_pow_pos u)), Nat.testBit_mod_two_pow, Nat.testBit_two_pow_mul_add _ (show x < 2 ^ 8 by omega), Nat.testBit_div_two_pow,
    Nat.testBit_mul_two_pow, Nat.testBit_mul_two_pow, show (255 : Nat) = 2 ^ 8 - 1 from rfl, Nat.testBit_two_pow_sub_one]
  by_cases h1 : j < u
  · simp [h1, show ¬ u ≤ j by omega, show j < 32 by omega]
  · rw [if_neg h1]
    by_cases h2 : j - u < 8
    · simp [h2, show u ≤ j by omega]
    · have hx0 : x.testBit (j - u) = false := Nat.testBit_lt_two_pow (Nat.lt_of_lt_of_le hx (Nat.pow_le_pow_right (n := 2) (by omega) (show 8 ≤ j - u by omega)))
      have e : j - u - 8 + (u + 8) = j := by omega
      simp only [h2, hx0, e]
      by_cases h3 : j < 32
      · simp [h3]
      · have hv0 : v.testBit j = false := Nat.testBit_lt_two_pow (Nat.lt_of_lt_of_le hv (Nat.pow_le_pow_right (n := 2) (by omega) (show 32 ≤ j by omega)))
        simp [hv0]
theorem cast_mul_pow (x u : Nat) : ((x * 2 ^ u : Nat) : Int) = (x : Int) * 2 ^ u := by push_cast; rfl
theorem cast_div_pow (x u : Nat) : ((x / 2 ^ u : Nat) : Int) = (x : Int) / 2 ^ u := by push_cast; rfl
theorem cast_mod (x : Nat) : ((x % 256 : Nat) : Int) = (x : Int) % 256 := by omega
theorem int_patch (v s : Int) (u k : Nat) (hu : u ≤ 24) (hv : 0 ≤ v ∧ v < 4294967296) (hs : 0 ≤ s ∧ s < 4294967296) (hk : k ≤ 24) :
    bits .or .u32 (bits .andNot .u32 v (255 * 2 ^ u % 4294967296)) (bits .and .u32 (s / 2 ^ k) 255 * 2 ^ u % 4294967296) = v - v / 2 ^ u % 256 * 2 ^ u + s / 2 ^ k % 256 * 2 ^ u := by
  obtain ⟨V, rfl⟩ := Int.eq_ofNat_of_zero_le hv.1
  obtain ⟨S, rfl⟩ := Int.eq_ofNat_of_zero_le hs.1
  have hpu : 2 ^ u ≤ 2 ^ 24 := Nat.pow_le_pow_right (by omega) hu
  have hpp := Nat.two_pow_pos u
  have e1 : (255 * 2 ^ u % 4294967296 : Int) = ((255 * 2 ^ u : Nat) : Int) := by
    have h1 : ((255 * 2 ^ u : Nat) : Int) < 4294967296 := by omega
    have h2 : (0 : Int) ≤ ((255 * 2 ^ u : Nat) : Int) := by omega
    have h3 := cast_mul_pow 255 u
    rw [show ((255 : Nat) : Int) = 255 from rfl] at h3
    rw [← h3, Int.emod_eq_of_lt h2 h1]
  have e2 : ((S : Int) / 2 ^ k) = ((S / 2 ^ k : Nat) : Int) := (cast_div_pow S k).symm
  have hSk : S / 2 ^ k < 4294967296 := Nat.lt_of_le_of_lt (Nat.div_le_self _ _) (by omega)
  have e3 : bits .and .u32 ((S : Int) / 2 ^ k) 255 = ((S / 2 ^ k % 256 : Nat) : Int) := by
    rw [e2, show (255 : Int) = ((255 : Nat) : Int) from rfl, u32_and_nat _ _ hSk (by omega), show (255 : Nat) = 2 ^ 8 - 1 from rfl, Nat.and_two_pow_sub_one_eq_mod]
  obtain ⟨X, hX⟩ : ∃ X, S / 2 ^ k % 256 = X := ⟨_, rfl⟩
  have hX256 : X < 256 := by rw [← hX]; exact Nat.mod_lt _ (by omega)
  have hXu : X * 2 ^ u < 4294967296 := Nat.lt_of_lt_of_le (Nat.mul_lt_mul_of_lt_of_le hX256 hpu (by omega)) (by decide)
  have e4 : bits .and .u32 ((S : Int) / 2 ^ k) 255 * 2 ^ u % 4294967296 = ((X * 2 ^ u : Nat) : Int) := by
    have h1 : ((X * 2 ^ u : Nat) : Int) < 4294967296 := by omega
    have h2 : (0 : Int) ≤ ((X * 2 ^ u : Nat) : Int) := by omega
    rw [e3, hX, ← cast_mul_pow, Int.emod_eq_of_lt h2 h1]
  have h255 : 255 * 2 ^ u < 4294967296 := by omega
  rw [e1, e4, u32_andNot_nat _ _ (by omega) h255, u32_or_nat _ _ (Nat.lt_of_le_of_lt Nat.and_le_left (by omega)) hXu, nat_patch V X u hu (by omega) hX256]
  have e5 : ((S : Int) / 2 ^ k % 256) = (X : Int) := by rw [e2, ← hX, cast_mod]
  rw [e5]
  have hd : V = 2 ^ u * (2 ^ 8 * (V / 2 ^ (u + 8)) + V / 2 ^ u % 256) + V % 2 ^ u := by
    have h1 := Nat.div_add_mod V (2 ^ u)
    have h2 := Nat.div_add_mod (V / 2 ^ u) 256
    rw [Nat.div_div_eq_div_mul, show 2 ^ u * 256 = 2 ^ (u + 8) by rw [Nat.pow_add]] at h2
    rw [show (2 : Nat) ^ 8 = 256 from rfl, h2, h1]
  have hd2 : ((2 ^ u * (2 ^ 8 * (V / 2 ^ (u + 8)) + X) + V % 2 ^ u : Nat) : Int) = (V : Int) - ((V / 2 ^ u % 256 * 2 ^ u : Nat) : Int) + ((X * 2 ^ u : Nat) : Int) := by
    generalize V / 2 ^ (u + 8) = H at *
    generalize V / 2 ^ u % 256 = O at *
    generalize V % 2 ^ u = L at *
    have : 2 ^ u * (2 ^ 8 * H + X) + L + O * 2 ^ u = V + X * 2 ^ u := by
      rw [hd, Nat.mul_add, Nat.mul_add, Nat.mul_comm O, Nat.mul_comm X]
      omega
    omega
  rw [hd2, cast_mul_pow, cast_mul_pow, cast_mod, cast_div_pow]
/-- bytes with one set -/
def upd (f : Nat → Int) (k : Nat) (x : Int) (j : Nat) : Int := if j = k then x else f j
theorem be_patch {f : Nat → Int} {a n i : Nat} {x : Int} {u : Nat} (hn : n = 1 ∨ n = 2 ∨ n = 4) (hi : i < n) (hu : (u : Int) = 8 * ((n : Int) - 1 - i)) (hf : ∀ k, k < n → 0 ≤ f (a + k) ∧ f (a + k) < 256) :
    be (upd f (a + i) x) a n = be f a n - be f a n / 2 ^ u % 256 * 2 ^ u + x * 2 ^ u := by
  have h0 := hf 0 (by omega)
  rcases hn with rfl | rfl | rfl
  · obtain rfl : i = 0 := by omega
    obtain rfl : u = 0 := by omega
    simp only [be, upd, Nat.add_zero] at *
    simp
    omega
  · have h1 := hf 1 (by omega)
    have hc : i = 0 ∨ i = 1 := by omega
    rcases hc with rfl | rfl
    · obtain rfl : u = 8 := by omega
      simp only [be, upd, Nat.add_zero] at *
      simp
      omega
    · obtain rfl : u = 0 := by omega
      simp only [be, upd, Nat.add_zero] at *
      simp
      omega
  · have h1 := hf 1 (by omega)
    have h2 := hf 2 (by omega)
    have h3 := hf 3 (by omega)
    have hc : i = 0 ∨ i = 1 ∨ i = 2 ∨ i = 3 := by omega
    rcases hc with rfl | rfl | rfl | rfl
    · obtain rfl : u = 24 := by omega
      simp only [be, upd, Nat.add_zero] at *
      simp
      omega
    · obtain rfl : u = 16 := by omega
      simp only [be, upd, Nat.add_zero] at *
      simp
      omega
    · obtain rfl : u = 8 := by omega
      simp only [be, upd, Nat.add_zero] at *
      simp
      omega
    · obtain rfl : u = 0 := by omega
      simp only [be, upd, Nat.add_zero] at *
      simp
      omega
end Go.Proofs.YtknhfobcejpmeaaDoor

/- Mach4 -/
/- The walk of a machine's Load. -/
namespace Go.Proofs.YtknhfobcejpmeaaDoor
open Go.RowKit Go.Deep
set_option linter.unusedVariables false
set_option linter.unusedSimpArgs false

theorem wtL_get (l : List Ir.Wt) : ∀ i, (hi : i < l.length) → (wtL l)[i * 3]? = some (.int .u32 l[i].addr) ∧ (wtL l)[i * 3 + 1]? = some (.int .i64 l[i].size) ∧ (wtL l)[i * 3 + 2]? = some (.int .u32 l[i].v) := by
  induction l with
  | nil => intro i h; simp at h
  | cons o r ih =>
    intro i h
    have e : wtL (o :: r) = [.int .u32 o.addr, .int .i64 o.size, .int .u32 o.v] ++ wtL r := rfl
    rw [e]
    cases i with
    | zero => exact ⟨rfl, rfl, rfl⟩
    | succ i =>
      have := ih i (by simpa using h)
      rw [List.getElem?_append_right (by simp; omega), List.getElem?_append_right (by simp; omega), List.getElem?_append_right (by simp; omega)]
      simp only [List.length_cons, List.length_nil, List.getElem_cons_succ]
      rw [show (i + 1) * 3 - (0 + 1 + 1 + 1) = i * 3 by omega, show (i + 1) * 3 + 1 - (0 + 1 + 1 + 1) = i * 3 + 1 by omega, show (i + 1) * 3 + 2 - (0 + 1 + 1 + 1) = i * 3 + 2 by omega]
      exact this
/-- the stores that wait, as they are read -/
def WtsAt (w : World) (A : Option Addr) (n cap : Nat) (l : List Ir.Wt) : Prop := l.length = n ∧ n ≤ cap ∧ cap ≤ 9223372036854775807 ∧ (n = 0 ∨ ∃ g, A = some ⟨g, 0, none⟩ ∧ ∀ i, (hi : i < l.length) → w.cell? ⟨g, i * 3, none⟩ = some (.int .u32 l[i].addr) ∧ w.cell? ⟨g, i * 3 + 1, none⟩ = some (.int .i64 l[i].size) ∧ w.cell? ⟨g, i * 3 + 2, none⟩ = some (.int .u32 l[i].v))
theorem WtsAt.keep {w w' : World} {A : Option Addr} {n cap : Nat} {l : List Ir.Wt} (h : WtsAt w A n cap l) (k : Keeps (fun _ => False) w w') : WtsAt w' A n cap l := by
  obtain ⟨h1, h2, h3, h4 | ⟨g, h5, h6⟩⟩ := h
  · exact ⟨h1, h2, h3, .inl h4⟩
  · refine ⟨h1, h2, h3, .inr ⟨g, h5, fun i hi => ?_⟩⟩
    obtain ⟨a, b, c⟩ := h6 i hi
    exact ⟨k.cell' a (fun h => h), k.cell' b (fun h => h), k.cell' c (fun h => h)⟩
/-- bytes of which the first are as stores that wait left them -/
def mixA (m : Nat → Int) (ws : List Ir.Wt) (a i : Nat) (j : Nat) : Int := if j < a + i then Ir.pend m ws j else m j
def mixB (m : Nat → Int) (ws : List Ir.Wt) (a i k : Nat) (j : Nat) : Int := if j < a + i then Ir.pend m ws j else if j = a + i then Ir.pend m (ws.take k) j else m j
theorem be_ext {f g : Nat → Int} {a : Nat} : ∀ {n : Nat}, (∀ j, j < n → f (a + j) = g (a + j)) → be f a n = be g a n
  | 0, _ => rfl
  | n + 1, h => by rw [be, be, be_ext (fun j hj => h j (by omega)), h n (by omega)]
theorem sb_rng (v : Int) (n i : Nat) : 0 ≤ sb v n i ∧ sb v n i < 256 := by unfold sb; omega
theorem pend_rng {m : Nat → Int} (hm : ∀ j, j < 16384 → 0 ≤ m j ∧ m j < 256) : ∀ (ws : List Ir.Wt), ∀ j, j < 16384 → 0 ≤ Ir.pend m ws j ∧ Ir.pend m ws j < 256 := by
  intro ws
  induction ws generalizing m with
  | nil => exact hm
  | cons s r ih =>
    refine ih (m := stTo m s.addr.toNat s.size.toNat s.v s.size.toNat) (fun j hj => ?_)
    unfold stTo
    split
    · exact sb_rng _ _ _
    · exact hm j hj
theorem pend_snoc (m : Nat → Int) (ws : List Ir.Wt) (k : Nat) (hk : k < ws.length) : Ir.pend m (ws.take (k + 1)) = stTo (Ir.pend m (ws.take k)) ws[k].addr.toNat ws[k].size.toNat ws[k].v ws[k].size.toNat := by
  rw [List.take_succ_eq_append_getElem hk]
  unfold Ir.pend
  rw [List.foldl_append]
  rfl
theorem mixB_rng {m : Nat → Int} (hm : ∀ j, j < 16384 → 0 ≤ m j ∧ m j < 256) (ws : List Ir.Wt) (a i k j : Nat) (hj : j < 16384) : 0 ≤ mixB m ws a i k j ∧ mixB m ws a i k j < 256 := by
  unfold mixB
  split
  · exact pend_rng hm _ _ hj
  · split
    · exact pend_rng hm _ _ hj
    · exact hm _ hj
theorem mixB_zero (m : Nat → Int) (ws : List Ir.Wt) (a i : Nat) : mixB m ws a i 0 = mixA m ws a i := by
  funext j
  unfold mixB mixA
  split
  · rfl
  · split
    · rfl
    · rfl
theorem mixB_all (m : Nat → Int) (ws : List Ir.Wt) (a i N : Nat) (h : ws.length = N) : mixB m ws a i N = mixA m ws a (i + 1) := by
  funext j
  unfold mixB mixA
  rw [← h, List.take_length]
  by_cases h1 : j < a + i
  · rw [if_pos h1, if_pos (by omega)]
  · rw [if_neg h1]
    by_cases h2 : j = a + i
    · rw [if_pos h2, if_pos (by omega)]
    · rw [if_neg h2, if_neg (by omega)]
theorem mixB_in {m : Nat → Int} {ws : List Ir.Wt} {a i k : Nat} {sa sz sv : Int} (hk : k < ws.length) (hs : ws[k] = ⟨sa, sz, sv⟩) (h0 : 0 ≤ sa) (h1 : sa ≤ (a : Int) + i) (h2 : (a : Int) + i < sa + sz) (u2 : Nat) (hu2 : (u2 : Int) = 8 * (sz - 1 - ((a : Int) + i - sa))) :
    mixB m ws a i (k + 1) = upd (mixB m ws a i k) (a + i) (sv / 2 ^ u2 % 256) := by
  funext j
  unfold mixB upd
  simp only []
  by_cases h3 : j < a + i
  · rw [if_pos h3, if_neg (by omega), if_pos h3]
  · rw [if_neg h3, if_neg h3]
    by_cases h4 : j = a + i
    · rw [if_pos h4, if_pos h4, pend_snoc m ws k hk, hs]
      unfold stTo
      simp only
      rw [if_pos (by omega)]
      unfold sb
      rw [show 8 * (sz.toNat - 1 - (j - sa.toNat)) = u2 by omega]
    · rw [if_neg h4, if_neg h4, if_neg h4]
theorem mixB_out {m : Nat → Int} {ws : List Ir.Wt} {a i k : Nat} {sa sz sv : Int} (hk : k < ws.length) (hs : ws[k] = ⟨sa, sz, sv⟩) (h0 : 0 ≤ sa) (h : ¬ (sa ≤ (a : Int) + i ∧ (a : Int) + i < sa + sz)) :
    mixB m ws a i (k + 1) = mixB m ws a i k := by
  funext j
  unfold mixB
  by_cases h3 : j < a + i
  · rw [if_pos h3, if_pos h3]
  · rw [if_neg h3, if_neg h3]
    by_cases h4 : j = a + i
    · rw [if_pos h4, if_pos h4, pend_snoc m ws k hk, hs]
      unfold stTo
      simp only
      rw [if_neg (by omega)]
    · rw [if_neg h4, if_neg h4]
end Go.Proofs.YtknhfobcejpmeaaDoor

/- Value -/
/- The walks of ir.sums, ir.Value. -/
namespace Go.Proofs.YtknhfobcejpmeaaDoor
open Go.RowKit Go.Deep
set_option linter.unusedVariables false
set_option linter.unusedSimpArgs false

theorem value_c (c : Nat) (a b d : Int) : Ir.value c a b d = if Ir.isDiv c = true then (if b = 0 then d else if (c == 24 || c == 26) = true then Wd.quo a b (c == 24 || c == 25) else Wd.rst a b (c == 24 || c == 25)) else Ir.sumsV c a b := by
  unfold Ir.value
  simp only [nat_beq, Bool.decide_or, Bool.or_eq_true, decide_eq_true_eq]
end Go.Proofs.YtknhfobcejpmeaaDoor

/- Learn -/
/- The walks of learn, foldable. -/
namespace Go.Proofs.YtknhfobcejpmeaaDoor
open Go.RowKit Go.Deep
set_option linter.unusedVariables false
set_option linter.unusedSimpArgs false

theorem writes_rng {o : Ir.Op} (h : OpOk o) : i64R (Ir.writes o) := by
  unfold Ir.writes
  split
  · exact h.d
  · exact ⟨by decide, by decide⟩
theorem keeps_map {w w' : World} {b : Nat} (h : w.mapTurned w' b) : Keeps (· = b) w w' := (Keeps.refl _ w).grown h.grown (fun k e _ => by injection e with e; exact e.symm)
theorem foldable_c (f : Ir.Facts) (o : Ir.Op) : Ir.foldable f o = if (!Ir.isSum (Ir.kn o.k) || Ir.isDiv (Ir.kn o.k)) = true then false else (Ir.fof f o.a).isSome && (Ir.fof f o.b).isSome := by
  unfold Ir.foldable
  cases Ir.isSum (Ir.kn o.k) <;> cases Ir.isDiv (Ir.kn o.k) <;> simp
end Go.Proofs.YtknhfobcejpmeaaDoor

/- IsKnown -/
/- The walks of the reference's isKnown. -/
namespace Go.Proofs.YtknhfobcejpmeaaDoor
open Go.RowKit Go.Deep
set_option linter.unusedVariables false
set_option linter.unusedSimpArgs false

theorem learn_other (f : Ir.Facts) (o : Ir.Op) (x : Int) (h : Ir.writes o ≠ x) : Ir.learn f o x = f x := by
  unfold Ir.learn
  split
  · rfl
  · exact if_neg (Ne.symm h)
theorem facts_stepk (l : List Ir.Op) (i : Nat) (hi : i < l.length) : Ir.factsOf (l.take (i + 1)) = Ir.learn (Ir.factsOf (l.take i)) (l.getD i Ir.nop) := by
  unfold Ir.factsOf
  have : l.getD i Ir.nop = l[i] := by simp [List.getD, hi]
  rw [List.take_succ_eq_append_getElem hi, List.foldl_append, this]
  rfl
theorem facts_same (l : List Ir.Op) (x : Int) (i : Nat) : ∀ k, i ≤ k → k ≤ l.length → (∀ j, i ≤ j → j < k → Ir.writes (l.getD j Ir.nop) ≠ x) → Ir.factsOf (l.take k) x = Ir.factsOf (l.take i) x := by
  intro k
  induction k with
  | zero => intro h _ _; obtain rfl : i = 0 := by omega
            rfl
  | succ k ih =>
    intro h1 h2 h3
    by_cases e : i = k + 1
    · rw [e]
    · rw [facts_stepk l k (by omega), learn_other _ _ _ (h3 k (by omega) (by omega))]
      exact ih (by omega) (by omega) (fun j hj hk => h3 j hj (by omega))
theorem known_found (l : List Ir.Op) (x : Int) (p : Nat) (hp : p < l.length) (hx : x ≠ 0) (hw : Ir.writes (l.getD p Ir.nop) = x) (h : ∀ j, p + 1 ≤ j → j < l.length → Ir.writes (l.getD j Ir.nop) ≠ x) :
    (Ir.fof (Ir.factsOf l) x).isSome = (Ir.kn (l.getD p Ir.nop).k == 1) := by
  have e := facts_same l x (p + 1) l.length (by omega) (Nat.le_refl _) h
  rw [List.take_length] at e
  rw [show Ir.fof (Ir.factsOf l) x = Ir.factsOf l x from if_neg hx, e, facts_stepk l p hp]
  unfold Ir.learn
  rw [if_neg (by rw [hw]; exact hx)]
  simp only [hw, if_true]
  by_cases h1 : Ir.kn (l.getD p Ir.nop).k = 1
  · rw [if_pos h1, h1]; rfl
  · rw [if_neg h1]
    have : (Ir.kn (l.getD p Ir.nop).k == 1) = false := by simpa using h1
    rw [this]; rfl
theorem known_none (l : List Ir.Op) (x : Int) (hx : x ≠ 0) (h : ∀ j, j < l.length → Ir.writes (l.getD j Ir.nop) ≠ x) : (Ir.fof (Ir.factsOf l) x).isSome = false := by
  have e := facts_same l x 0 l.length (Nat.zero_le _) (Nat.le_refl _) (fun j _ hj => h j hj)
  rw [List.take_length] at e
  rw [show Ir.fof (Ir.factsOf l) x = Ir.factsOf l x from if_neg hx, e]
  rfl
end Go.Proofs.YtknhfobcejpmeaaDoor
