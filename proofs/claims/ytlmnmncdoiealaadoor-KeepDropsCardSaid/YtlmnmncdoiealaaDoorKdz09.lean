import Derived.Test.YtlmnmncdoiealaaDoorKdz08
import Derived.Test.YtlmnmncdoiealaaDoorWide
import Derived.Test.YtlmnmncdoiealaaDoorFoldL
import Derived.Test.YtlmnmncdoiealaaDoorKdz06
import Derived.Test.YtlmnmncdoiealaaDoorKdz07
import Derived.Test.YtlmnmncdoiealaaDoorOpsOwn

/- Mach4 -/
/- The walk of a machine's Load. -/
namespace Go.Proofs.YtlmnmncdoiealaaDoor
open Go.RowKit Go.Deep
set_option linter.unusedVariables false
set_option linter.unusedSimpArgs false

theorem wtL_get (l : List Ir.Wt) : ∀ i, (hi : i < l.length) → (wtL l)[i * 3]? = some (.int .u32 l[i].addr) ∧ (wtL l)[i * 3 + 1]? = some (.int .i64 l[i].size) ∧ (wtL l)[i * 3 + 2]? = some (.int .u32 l[i].v) := by
  induction l with
  | nil => intro i h; simp at h
  | cons o r ih =>
    intro i h
    have e : wtL (o :: r) = [.int .u32 o.addr, .int .i64 o.size, .int .u32 o.v] ++ wtL r := rfl
    rw [e]
    cases i with
    | zero => exact ⟨rfl, rfl, rfl⟩
    | succ i =>
      have := ih i (by simpa using h)
      rw [List.getElem?_append_right (by simp; omega), List.getElem?_append_right (by simp; omega), List.getElem?_append_right (by simp; omega)]
      simp only [List.length_cons, List.length_nil, List.getElem_cons_succ]
      rw [show (i + 1) * 3 - (0 + 1 + 1 + 1) = i * 3 by omega, show (i + 1) * 3 + 1 - (0 + 1 + 1 + 1) = i * 3 + 1 by omega, show (i + 1) * 3 + 2 - (0 + 1 + 1 + 1) = i * 3 + 2 by omega]
      exact this
/-- the stores that wait, as they are read -/
def WtsAt (w : World) (A : Option Addr) (n cap : Nat) (l : List Ir.Wt) : Prop := l.length = n ∧ n ≤ cap ∧ cap ≤ 9223372036854775807 ∧ (n = 0 ∨ ∃ g, A = some ⟨g, 0, none⟩ ∧ ∀ i, (hi : i < l.length) → w.cell? ⟨g, i * 3, none⟩ = some (.int .u32 l[i].addr) ∧ w.cell? ⟨g, i * 3 + 1, none⟩ = some (.int .i64 l[i].size) ∧ w.cell? ⟨g, i * 3 + 2, none⟩ = some (.int .u32 l[i].v))
theorem WtsAt.keep {w w' : World} {A : Option Addr} {n cap : Nat} {l : List Ir.Wt} (h : WtsAt w A n cap l) (k : Keeps (fun _ => False) w w') : WtsAt w' A n cap l := by
  obtain ⟨h1, h2, h3, h4 | ⟨g, h5, h6⟩⟩ := h
  · exact ⟨h1, h2, h3, .inl h4⟩
  · refine ⟨h1, h2, h3, .inr ⟨g, h5, fun i hi => ?_⟩⟩
    obtain ⟨a, b, c⟩ := h6 i hi
    exact ⟨k.cell' a (fun h => h), k.cell' b (fun h => h), k.cell' c (fun h => h)⟩
/-- bytes of which the first are as stores that wait left them -/
def mixA (m : Nat → Int) (ws : List Ir.Wt) (a i : Nat) (j : Nat) : Int := if j < a + i then Ir.pend m ws j else m j
def mixB (m : Nat → Int) (ws : List Ir.Wt) (a i k : Nat) (j : Nat) : Int := if j < a + i then Ir.pend m ws j else if j = a + i then Ir.pend m (ws.take k) j else m j
theorem be_ext {f g : Nat → Int} {a : Nat} : ∀ {n : Nat}, (∀ j, j < n → f (a + j) = g (a + j)) → be f a n = be g a n
  | 0, _ => rfl
  | n + 1, h => by rw [be, be, be_ext (fun j hj => h j (by omega)), h n (by omega)]
theorem sb_rng (v : Int) (n i : Nat) : 0 ≤ sb v n i ∧ sb v n i < 256 := by unfold sb; omega
theorem pend_rng {m : Nat → Int} (hm : ∀ j, j < 16384 → 0 ≤ m j ∧ m j < 256) : ∀ (ws : List Ir.Wt), ∀ j, j < 16384 → 0 ≤ Ir.pend m ws j ∧ Ir.pend m ws j < 256 := by
  intro ws
  induction ws generalizing m with
  | nil => exact hm
  | cons s r ih =>
    refine ih (m := stTo m s.addr.toNat s.size.toNat s.v s.size.toNat) (fun j hj => ?_)
    unfold stTo
    split
    · exact sb_rng _ _ _
    · exact hm j hj
theorem pend_snoc (m : Nat → Int) (ws : List Ir.Wt) (k : Nat) (hk : k < ws.length) : Ir.pend m (ws.take (k + 1)) = stTo (Ir.pend m (ws.take k)) ws[k].addr.toNat ws[k].size.toNat ws[k].v ws[k].size.toNat := by
  rw [List.take_succ_eq_append_getElem hk]
  unfold Ir.pend
  rw [List.foldl_append]
  rfl
theorem mixB_rng {m : Nat → Int} (hm : ∀ j, j < 16384 → 0 ≤ m j ∧ m j < 256) (ws : List Ir.Wt) (a i k j : Nat) (hj : j < 16384) : 0 ≤ mixB m ws a i k j ∧ mixB m ws a i k j < 256 := by
  unfold mixB
  split
  · exact pend_rng hm _ _ hj
  · split
    · exact pend_rng hm _ _ hj
    · exact hm _ hj
theorem mixB_zero (m : Nat → Int) (ws : List Ir.Wt) (a i : Nat) : mixB m ws a i 0 = mixA m ws a i := by
  funext j
  unfold mixB mixA
  split
  · rfl
  · split
    · rfl
    · rfl
theorem mixB_all (m : Nat → Int) (ws : List Ir.Wt) (a i N : Nat) (h : ws.length = N) : mixB m ws a i N = mixA m ws a (i + 1) := by
  funext j
  unfold mixB mixA
  rw [← h, List.take_length]
  by_cases h1 : j < a + i
  · rw [if_pos h1, if_pos (by omega)]
  · rw [if_neg h1]
    by_cases h2 : j = a + i
    · rw [if_pos h2, if_pos (by omega)]
    · rw [if_neg h2, if_neg (by omega)]
theorem mixB_in {m : Nat → Int} {ws : List Ir.Wt} {a i k : Nat} {sa sz sv : Int} (hk : k < ws.length) (hs : ws[k] = ⟨sa, sz, sv⟩) (h0 : 0 ≤ sa) (h1 : sa ≤ (a : Int) + i) (h2 : (a : Int) + i < sa + sz) (u2 : Nat) (hu2 : (u2 : Int) = 8 * (sz - 1 - ((a : Int) + i - sa))) :
    mixB m ws a i (k + 1) = upd (mixB m ws a i k) (a + i) (sv / 2 ^ u2 % 256) := by
  funext j
  unfold mixB upd
  simp only []
  by_cases h3 : j < a + i
  · rw [if_pos h3, if_neg (by omega), if_pos h3]
  · rw [if_neg h3, if_neg h3]
    by_cases h4 : j = a + i
    · rw [if_pos h4, if_pos h4, pend_snoc m ws k hk, hs]
      unfold stTo
      simp only
      rw [if_pos (by omega)]
      unfold sb
      rw [show 8 * (sz.toNat - 1 - (j - sa.toNat)) = u2 by omega]
    · rw [if_neg h4, if_neg h4, if_neg h4]
theorem mixB_out {m : Nat → Int} {ws : List Ir.Wt} {a i k : Nat} {sa sz sv : Int} (hk : k < ws.length) (hs : ws[k] = ⟨sa, sz, sv⟩) (h0 : 0 ≤ sa) (h : ¬ (sa ≤ (a : Int) + i ∧ (a : Int) + i < sa + sz)) :
    mixB m ws a i (k + 1) = mixB m ws a i k := by
  funext j
  unfold mixB
  by_cases h3 : j < a + i
  · rw [if_pos h3, if_pos h3]
  · rw [if_neg h3, if_neg h3]
    by_cases h4 : j = a + i
    · rw [if_pos h4, if_pos h4, pend_snoc m ws k hk, hs]
      unfold stTo
      simp only
      rw [if_neg (by omega)]
    · rw [if_neg h4, if_neg h4]
end Go.Proofs.YtlmnmncdoiealaaDoor

/- MachOk -/
/- A machine stays in its ranges. -/
namespace Go.Proofs.YtlmnmncdoiealaaDoor
open Go.RowKit Go.Deep
set_option linter.unusedVariables false
set_option linter.unusedSimpArgs false

theorem wide_rng {v n : Int} {s : Bool} (h : 0 ≤ v ∧ v < 4294967296) : 0 ≤ Wd.wide v n s ∧ Wd.wide v n s < 4294967296 := by
  unfold Wd.wide
  split
  · exact h
  · have h1 : 0 ≤ v % 2 ^ n.toNat := Int.emod_nonneg _ (Int.ne_of_gt (Int.pow_pos (by omega)))
    have h2 : v % 2 ^ n.toNat ≤ v := by
      have h3 := Int.mul_ediv_add_emod v (2 ^ n.toNat)
      have h4 : 0 ≤ (2 : Int) ^ n.toNat * (v / 2 ^ n.toNat) := Int.mul_nonneg (Int.le_of_lt (Int.pow_pos (by omega))) (Int.ediv_nonneg h.1 (Int.le_of_lt (Int.pow_pos (by omega))))
      omega
    split <;> omega
theorem quo_rng {a b : Int} {s : Bool} (ha : 0 ≤ a ∧ a < 4294967296) (hb : 0 ≤ b ∧ b < 4294967296) : 0 ≤ Wd.quo a b s ∧ Wd.quo a b s < 4294967296 := by
  unfold Wd.quo
  split
  · omega
  · split
    · omega
    · have h1 : 0 ≤ a / b := Int.ediv_nonneg ha.1 hb.1
      have h2 : a / b ≤ a := Int.ediv_le_self _ ha.1
      omega
theorem rst_rng {a b : Int} {s : Bool} (ha : 0 ≤ a ∧ a < 4294967296) (hb : 0 ≤ b ∧ b < 4294967296) : 0 ≤ Wd.rst a b s ∧ Wd.rst a b s < 4294967296 := by
  unfold Wd.rst
  split
  · omega
  · split
    · omega
    · have h1 : 0 ≤ a % b := Int.emod_nonneg _ (by assumption)
      have h2 : a % b < b := Int.emod_lt_of_pos _ (by omega)
      omega
theorem value_rng (c : Nat) {a b d : Int} (ha : 0 ≤ a ∧ a < 4294967296) (hb : 0 ≤ b ∧ b < 4294967296) (hd : 0 ≤ d ∧ d < 4294967296) : 0 ≤ Ir.value c a b d ∧ Ir.value c a b d < 4294967296 := by
  unfold Ir.value
  split
  · split
    · exact hd
    · split
      · exact quo_rng ha hb
      · exact rst_rng ha hb
  · exact sumsV_rng c ha hb
theorem loadV_rng {m : Nat → Int} (hm : ∀ j, j < 16384 → 0 ≤ m j ∧ m j < 256) (ws : List Ir.Wt) {ad b : Int} (h0 : 0 ≤ ad) (h : rightC ad b.natAbs = 0) : 0 ≤ Ir.loadV m ws ad b ∧ Ir.loadV m ws ad b < 4294967296 := by
  obtain ⟨hn, hal, hlt⟩ := rightC_ok h
  have hn3 : b.natAbs = 1 ∨ b.natAbs = 2 ∨ b.natAbs = 4 := by omega
  unfold Ir.loadV
  refine wide_rng ?_
  have hfit : ad + b.natAbs ≤ 16384 := by
    generalize b.natAbs = n at *
    rcases hn3 with rfl | rfl | rfl <;> omega
  have h1 := be_rng (Ir.pend m ws) ad.toNat b.natAbs (fun j hj => pend_rng hm ws _ (by omega))
  have h2 : (256 : Int) ^ b.natAbs ≤ 4294967296 := by rcases hn3 with h3 | h3 | h3 <;> rw [h3] <;> decide
  exact ⟨h1.1, Int.lt_of_lt_of_le h1.2 h2⟩
theorem setX_ok {W : Int → Bool} {c : Ir.Mc} (h : Ir.McOk W c) (d : Int) {v : Int} (hv : 0 ≤ v ∧ v < 4294967296) : Ir.McOk W { c with X := Ir.setX c.X d v } := by
  refine ⟨fun k hk => ?_, h.ws⟩
  show 0 ≤ Ir.setX c.X d v k ∧ Ir.setX c.X d v k < 4294967296
  unfold Ir.setX
  split
  · exact hv
  · exact h.X k hk
theorem rg_ok {W : Int → Bool} {c : Ir.Mc} (h : Ir.McOk W c) {n : Int} (hn : 0 ≤ n ∧ n < 64) : 0 ≤ Ir.rg c.X n ∧ Ir.rg c.X n < 4294967296 := h.X _ (by omega)
theorem doOp_ok {m : Nat → Int} (hm : ∀ j, j < 16384 → 0 ≤ m j ∧ m j < 256) {W : Int → Bool} {c c' : Ir.Mc} {o : Ir.Op} (h : Ir.McOk W c) (hi : Ir.OpIn o) (hnl : Ir.leaves (Ir.kn o.k) = false) (hd : Ir.doOp m W c o = some c') : Ir.McOk W c' ∧ c'.ws.length ≤ c.ws.length + 1 := by
  have ha := rg_ok h hi.a
  have hle := Ir.kn_le o.k
  unfold Ir.leaves at hnl
  have hnl := of_decide_eq_false hnl
  have hk := hi.k
  unfold Ir.doOp at hd
  split at hd
  · injection hd with hd; subst hd
    exact ⟨setX_ok h _ hi.imm, by simp⟩
  split at hd
  · injection hd with hd; subst hd
    exact ⟨setX_ok h _ ha, by simp⟩
  split at hd
  · split at hd
    · cases hd
    · injection hd with hd; subst hd
      exact ⟨h, by simp⟩
  split at hd
  · split at hd
    · rename_i h5
      injection hd with hd; subst hd
      exact ⟨setX_ok h _ (loadV_rng hm c.ws (by unfold Ir.adr; omega) h5), by simp⟩
    · cases hd
  rename_i h5
  have hb := rg_ok h (hi.b h5)
  split at hd
  · split at hd
    · rename_i h6 h7
      injection hd with hd; subst hd
      refine ⟨⟨h.X, fun s hs => ?_⟩, by simp⟩
      rcases List.mem_append.1 hs with hs | hs
      · exact h.ws s hs
      · simp only [List.mem_singleton] at hs
        subst hs
        exact ⟨h7.1, by show 0 ≤ Ir.adr _ _; unfold Ir.adr; omega, hb, h7.2⟩
    · cases hd
  · injection hd with hd; subst hd
    have hd1 := hi.d (by omega)
    exact ⟨setX_ok h _ (value_rng _ ha hb (rg_ok h (by omega))), by simp⟩
end Go.Proofs.YtlmnmncdoiealaaDoor

/- Mach7 -/
/- The walk of a machine's Leave. -/
namespace Go.Proofs.YtlmnmncdoiealaaDoor
open Go.RowKit Go.Deep
set_option linter.unusedVariables false
set_option linter.unusedSimpArgs false

theorem stL_lenD (s : Cp.St) : (stL s).length = 43 := by simp [stL, regs, restC]
def stF (s : Cp.St) (k : Nat) : Value := (stL s).getD k undef
theorem stF_reg (s : Cp.St) (k : Nat) (hk : k < 32) : stF s k = .int .u32 (s.R k) := by
  unfold stF stL
  rw [List.getD_eq_getElem?_getD, List.getElem?_append_left (by rw [regs_len]; exact hk)]
  simp [regs, hk]
theorem stF_rest (s : Cp.St) (i : Nat) : stF s (32 + i) = (restC s).getD i undef := by
  unfold stF stL
  rw [List.getD_eq_getElem?_getD, List.getElem?_append_right (by rw [regs_len]; omega), regs_len, show 32 + i - 32 = i by omega, List.getD_eq_getElem?_getD]
/-- a state as a machine left it -/
def Ir.leaveSt (s : Cp.St) (c : Ir.Mc) (pc many : Int) : Cp.St := { s with R := c.X, hi := c.X 32, lo := c.X 33, pc := pc, next := (pc + 4) % 4294967296, count := s.count + many }
end Go.Proofs.YtlmnmncdoiealaaDoor

/- RowsAt -/
/- Rows of ops that are read; results in a row of the call's own; what a row's results are, plainly. -/
namespace Go.Proofs.YtlmnmncdoiealaaDoor
open Go.RowKit Go.Deep
set_option linter.unusedVariables false
set_option linter.unusedSimpArgs false

/-- ROWS OF OPS that are read -/
structure RowsAt (w : World) (A : Option Addr) (n cap : Nat) (rows : List (List Ir.Op)) : Prop where
  len : rows.length = n
  le : n ≤ cap
  lies : cap = 0 ∨ ∃ b o, A = some ⟨b, o, none⟩ ∧ b < w.heap.size ∧ ∀ i, i < n → ∃ Ai ci, w.cell? ⟨b, o + i, none⟩ = some (.slice Ai (rows.getD i []).length ci) ∧ OpsAt w Ai (rows.getD i []).length ci (rows.getD i []) ∧ ci ≤ 9223372036854775807
theorem RowsAt.quiet {w w' : World} {A : Option Addr} {n cap : Nat} {rows : List (List Ir.Op)} (h : RowsAt w A n cap rows) (k : Keeps (fun _ => False) w w') : RowsAt w' A n cap rows := by
  obtain ⟨h1, h2, h3 | ⟨b, o, h4, h5, h6⟩⟩ := h
  · exact ⟨h1, h2, .inl h3⟩
  · refine ⟨h1, h2, .inr ⟨b, o, h4, Nat.lt_of_lt_of_le h5 k.size, fun i hi => ?_⟩⟩
    obtain ⟨Ai, ci, e1, e2, e3⟩ := h6 i hi
    exact ⟨Ai, ci, k.cell' e1 (fun f => f), e2.quiet k, e3⟩
theorem RowsAt.get {w : World} {A : Option Addr} {n cap : Nat} {rows : List (List Ir.Op)} (h : RowsAt w A n cap rows) {i : Nat} (hi : i < n) :
    ∃ b o Ai ci, A = some ⟨b, o, none⟩ ∧ w.cell? ⟨b, o + i, none⟩ = some (.slice Ai (rows.getD i []).length ci) ∧ OpsAt w Ai (rows.getD i []).length ci (rows.getD i []) ∧ ci ≤ 9223372036854775807 := by
  obtain ⟨h1, h2, h3 | ⟨b, o, h4, h5, h6⟩⟩ := h
  · omega
  · obtain ⟨Ai, ci, e1, e2, e3⟩ := h6 i hi
    exact ⟨b, o, Ai, ci, h4, e1, e2, e3⟩
/-- cells of results -/
def resL (l : List Ir.RRes) : List Value := l.flatMap (fun r => (resC r).toList)
theorem resL_len (l : List Ir.RRes) : (resL l).length = l.length * 4 := by
  induction l with
  | nil => rfl
  | cons o r ih =>
    have : resL (o :: r) = (resC o).toList ++ resL r := rfl
    rw [this, List.length_append, ih, List.length_cons]
    show 4 + _ = _
    omega
def nores : Ir.RRes := ⟨0, 0, false, false⟩
theorem resL_get (l : List Ir.RRes) : ∀ i q, i < l.length → q < 4 → (resL l)[i * 4 + q]? = (resC (l.getD i nores))[q]? := by
  induction l with
  | nil => intro i q h; simp at h
  | cons o r ih =>
    intro i q h hq
    have e : resL (o :: r) = (resC o).toList ++ resL r := rfl
    rw [e]
    cases i with
    | zero =>
      rw [List.getElem?_append_left (by show _ < 4; omega)]
      simp
    | succ i =>
      rw [List.getElem?_append_right (by show 4 ≤ _; omega)]
      show (resL r)[(i + 1) * 4 + q - 4]? = _
      rw [show (i + 1) * 4 + q - 4 = i * 4 + q by omega, ih i q (by simpa using h) hq]
      rfl
theorem resL_snoc (l : List Ir.RRes) (r : Ir.RRes) : resL (l ++ [r]) = resL l ++ (resC r).toList := by
  unfold resL
  rw [List.flatMap_append]
  simp
/-- a row of results in block g -/
structure ResRow (w : World) (g : Nat) (l : List Ir.RRes) : Prop where
  v : ∀ i, i < l.length → w.cell? ⟨g, i * 4, none⟩ = some (.int .u32 (l.getD i nores).v)
  addr : ∀ i, i < l.length → w.cell? ⟨g, i * 4 + 1, none⟩ = some (.int .u32 (l.getD i nores).addr)
  leave : ∀ i, i < l.length → w.cell? ⟨g, i * 4 + 3, none⟩ = some (.bool (l.getD i nores).leave)
theorem ResRow.keep {S : Nat → Prop} {w w' : World} {g : Nat} {l : List Ir.RRes} (h : ResRow w g l) (k : Keeps S w w') (hs : ¬ S g) : ResRow w' g l :=
  ⟨fun i hi => k.cell' (h.v i hi) hs, fun i hi => k.cell' (h.addr i hi) hs, fun i hi => k.cell' (h.leave i hi) hs⟩
theorem regL_len (X : Nat → Int) : (regL X).length = 64 := by simp [regL]
theorem range_keepR {w w' : World} {b : Nat} {cs : List Value} (h : w.rangeAt b 0 cs) (k : Keeps (fun _ => False) w w') : w'.rangeAt b 0 cs := fun j v hv => k.cell' (h j v hv) (fun f => f)
namespace Ir
/-- ranges of a result -/
theorem res_rng {X m : Nat → Int} {W : Int → Bool} {o : Op} (hX : ∀ k, k < 64 → 0 ≤ X k ∧ X k < 4294967296) (hm : ∀ j, j < 16384 → 0 ≤ m j ∧ m j < 256) (hi : OpIn o) :
    (0 ≤ (resOf X m W o).v ∧ (resOf X m W o).v < 4294967296) ∧ (0 ≤ (resOf X m W o).addr ∧ (resOf X m W o).addr < 4294967296) := by
  have hle := kn_le o.k
  have hk := hi.k
  have ha : 0 ≤ rg X o.a ∧ rg X o.a < 4294967296 := hX _ (by have := hi.a; omega)
  have hz : (0 : Int) ≤ 0 ∧ (0 : Int) < 4294967296 := by omega
  have hadr : 0 ≤ adr (rg X o.a) o.imm ∧ adr (rg X o.a) o.imm < 4294967296 := by unfold adr; omega
  unfold resOf
  split
  · exact ⟨hi.imm, hz⟩
  split
  · exact ⟨ha, hz⟩
  split
  · exact ⟨hz, hz⟩
  split
  · split
    · rename_i h5 hr
      have := loadV_rng hm [] (b := o.b) hadr.1 hr
      exact ⟨this, hz⟩
    · exact ⟨hz, hz⟩
  split
  · split
    · rename_i h6 _
      exact ⟨hX _ (by have := hi.b (by omega); omega), hadr⟩
    · exact ⟨hz, hz⟩
  split
  · exact ⟨hz, hi.imm⟩
  split
  · exact ⟨hz, hi.imm⟩
  split
  · exact ⟨hz, ha⟩
  · refine ⟨value_rng _ ha (hX _ (by have := hi.b (by omega); omega)) (hX _ (by have := hi.d (by omega); omega)), hz⟩
/-- a store that does not trap is right -/
theorem res_store {X m : Nat → Int} {W : Int → Bool} {o : Op} (h6 : kn o.k = 6) (ht : (resOf X m W o).trap = false) : rightC (resOf X m W o).addr o.d = 0 ∧ W ((resOf X m W o).addr / 256) = false := by
  unfold resOf at ht ⊢
  simp only [h6] at ht ⊢
  by_cases hr : rightC (adr (rg X o.a) o.imm) o.d = 0
  · simp [hr] at ht ⊢
    exact ht
  · simp [hr] at ht
theorem trapOf_at {X m : Nat → Int} {W : Int → Bool} : ∀ (l : List Op) (k : Nat), k < l.length → (∀ j, j < k → (resOf X m W (l.getD j nop)).trap = false) → (resOf X m W (l.getD k nop)).trap = true → trapOf X m W l = some (l.getD k nop).at_
  | [], k, h, _, _ => by simp at h
  | o :: r, 0, _, _, ht => by
    have ht2 : (resOf X m W o).trap = true := ht
    unfold trapOf
    rw [if_pos ht2]
    rfl
  | o :: r, k + 1, h, hj, ht => by
    unfold trapOf
    rw [if_neg (by have := hj 0 (by omega); simp at this; rw [this]; decide)]
    exact trapOf_at r k (by simpa using h) (fun j hj' => hj (j + 1) (by omega)) ht
theorem trapOf_none {X m : Nat → Int} {W : Int → Bool} : ∀ (l : List Op), (∀ j, j < l.length → (resOf X m W (l.getD j nop)).trap = false) → trapOf X m W l = none
  | [], _ => rfl
  | o :: r, h => by
    unfold trapOf
    rw [if_neg (by have := h 0 (by simp); simp at this; rw [this]; decide)]
    exact trapOf_none r (fun j hj => h (j + 1) (by simpa using hj))
/-- a row so far applied -/
def rowUp (X m : Nat → Int) (W : Int → Bool) (l : List Op) (k : Nat) : (Nat → Int) × (Nat → Int) := applyRow X m ((l.take k).map fun o => (o, resOf X m W o))
def levUp (X m : Nat → Int) (W : Int → Bool) (l : List Op) (k : Nat) : Option Int := leaveTo none ((l.take k).map (resOf X m W))
theorem applyRow_app (X m : Nat → Int) : ∀ (a b : List (Op × RRes)), applyRow X m (a ++ b) = applyRow (applyRow X m a).1 (applyRow X m a).2 b := by
  intro a
  induction a generalizing X m with
  | nil => intro b; rfl
  | cons p r ih => intro b; exact ih _ _ b
theorem leaveTo_app : ∀ (a b : List RRes) (c : Option Int), leaveTo c (a ++ b) = leaveTo (leaveTo c a) b
  | [], b, c => rfl
  | x :: a, b, c => leaveTo_app a b _
theorem take_succ_getD (l : List Op) (k : Nat) (h : k < l.length) : l.take (k + 1) = l.take k ++ [l.getD k nop] := by
  rw [List.take_succ_eq_append_getElem h, List.getD_eq_getElem?_getD, List.getElem?_eq_getElem h]
  rfl
theorem rowUp_step (X m : Nat → Int) (W : Int → Bool) (l : List Op) (k : Nat) (h : k < l.length) :
    rowUp X m W l (k + 1) = (applyX (rowUp X m W l k).1 (l.getD k nop) (resOf X m W (l.getD k nop)), applyM (rowUp X m W l k).2 (l.getD k nop) (resOf X m W (l.getD k nop))) := by
  unfold rowUp
  rw [take_succ_getD l k h, List.map_append, applyRow_app]
  rfl
theorem levUp_step (X m : Nat → Int) (W : Int → Bool) (l : List Op) (k : Nat) (h : k < l.length) :
    levUp X m W l (k + 1) = if (resOf X m W (l.getD k nop)).leave = true then some (resOf X m W (l.getD k nop)).addr else levUp X m W l k := by
  unfold levUp
  rw [take_succ_getD l k h, List.map_append, leaveTo_app]
  rfl
theorem runRows_trap {W : Int → Bool} {X m : Nat → Int} {l : List Op} {r : List (List Op)} {a : Int} (h : trapOf X m W l = some a) : runRows W X m (l :: r) = .trap a := by
  unfold runRows
  rw [h]
theorem runRows_on {W : Int → Bool} {X m : Nat → Int} {l : List Op} {r : List (List Op)} (h : trapOf X m W l = none) :
    runRows W X m (l :: r) = match levUp X m W l l.length with | some pc => .leave pc (rowUp X m W l l.length).1 (rowUp X m W l l.length).2 | none => runRows W (rowUp X m W l l.length).1 (rowUp X m W l l.length).2 r := by
  conv => lhs; unfold runRows
  rw [h]
  unfold levUp rowUp
  rw [List.take_length]
  rfl
/-- where a row leaves for, as an int: -1: it does not -/
def encL : Option Int → Int
  | none => -1
  | some a => a
end Ir
end Go.Proofs.YtlmnmncdoiealaaDoor
