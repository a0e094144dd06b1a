import Derived.Test.YtlmnmncdoiealaaGreatDoorKaz01
import Derived.Test.YtlmnmncdoiealaaGreatDoorRows
import Derived.Test.YtlmnmncdoiealaaGreatDoorMem
import Derived.WalkSpells
import Derived.WalkLawsBesides
import Derived.BigQuiet
import Derived.Laws.CopyOwn
import Derived.Lib.Hide
import Derived.Test.YtlmnmncdoiealaaGreatDoorWide
import Derived.Test.YtlmnmncdoiealaaGreatDoorErr
import Derived.Laws.BitsAllLaws
import Derived.StillTailTactics
import Derived.Maps.OwnOps
import Derived.Test.YtlmnmncdoiealaaGreatDoorShiftOf
import Derived.BigRegion

/- PlanBox -/
/- A plan in a block of its own. -/
namespace Go.Proofs.YtlmnmncdoiealaaGreatDoor
open Go.RowKit Go.Deep
set_option linter.unusedVariables false
set_option linter.unusedSimpArgs false

theorem size_plan : (Tryz.prog.info? 48).map (·.size) = some 3 := by kernel_rfl
theorem results_plan {fn : Func} {p u : Tmp} (h : fn.results = #[.cell p 48, .tmp u]) (tmps : Array Value) (w : World) (g : Nat) (cs : Array Value) (hp : tmps.getD p undef = .pointer (some ⟨g, 0, none⟩)) (hg : w.heap[g]? = some (.cells cs 48 (0, 0))) (hc : cs.size = 3) :
    (results fn tmps).run Tryz.prog w = .ok (.tuple #[.agg cs, tmps.getD u undef]) w := by
  rw [results_cell_tmp h, hp]
  have := run_loadVar_row (P := Tryz.prog) w g 48 48 cs (0, 0) _ hg Tryz.underlying48 rfl (by rw [hc]; exact size_plan)
  simp [asAddr, this]
/-- a plan in a block of its own -/
structure PlanBox (w : World) (x : Nat) (pc many : Int) (A : Option Addr) (n cap : Nat) : Prop where
  blk : w.heap[x]? = some (.cells (codeC pc many A n cap) 48 (0, 0))
theorem PlanBox.lt {w : World} {x : Nat} {pc many : Int} {A : Option Addr} {n cap : Nat} (h : PlanBox w x pc many A n cap) : x < w.heap.size := (Array.getElem?_eq_some_iff.1 h.blk).1
theorem PlanBox.keep {S : Nat → Prop} {w w' : World} {x : Nat} {pc many : Int} {A : Option Addr} {n cap : Nat} (h : PlanBox w x pc many A n cap) (k : Keeps S w w') (hs : ¬ S x) : PlanBox w' x pc many A n cap := ⟨(k.block x h.lt hs).trans h.blk⟩
theorem PlanBox.cells {w : World} {x : Nat} {pc many : Int} {A : Option Addr} {n cap : Nat} (h : PlanBox w x pc many A n cap) :
    w.cell? ⟨x, 0, none⟩ = some (.int .u32 pc) ∧ w.cell? ⟨x, 1, none⟩ = some (.int .i64 many) ∧ w.cell? ⟨x, 2, none⟩ = some (.slice A n cap) ∧ w.frozen? ⟨x, 0, none⟩ = false ∧ w.frozen? ⟨x, 1, none⟩ = false ∧ w.frozen? ⟨x, 2, none⟩ = false := by
  have hb := h.blk
  unfold codeC at hb
  refine ⟨?_, ?_, ?_, frozen_of_block hb 0, frozen_of_block hb 1, frozen_of_block hb 2⟩ <;> (unfold World.cell?; rw [hb]; rfl)
theorem PlanBox.put {w : World} {x : Nat} {pc many pc' many' : Int} {A A' : Option Addr} {n cap n' cap' : Nat} (h : PlanBox w x pc many A n cap) :
    PlanBox (((w.setCell ⟨x, 0, none⟩ (.int .u32 pc')).setCell ⟨x, 1, none⟩ (.int .i64 many')).setCell ⟨x, 2, none⟩ (.slice A' n' cap')) x pc' many' A' n' cap' ∧
      Keeps (· = x) w (((w.setCell ⟨x, 0, none⟩ (.int .u32 pc')).setCell ⟨x, 1, none⟩ (.int .i64 many')).setCell ⟨x, 2, none⟩ (.slice A' n' cap')) :=
  ⟨⟨(set3c h.blk).1⟩, (set3c h.blk).2⟩
theorem PlanBox.new (w : World) (pc many : Int) (A : Option Addr) (n cap : Nat) : PlanBox (w.alloc (.cells #[.int .u32 pc, .int .i64 many, .slice A n cap] 48)) w.heap.size pc many A n cap := ⟨blk_alloc_new _ _⟩
end Go.Proofs.YtlmnmncdoiealaaGreatDoor

/- RamNew -/
/- The walk of ram.New. -/
namespace Go.Proofs.YtlmnmncdoiealaaGreatDoor
open Go.RowKit Go.Deep
set_option linter.unusedVariables false

theorem Tryz.info_byte : (Tryz.prog.info? 5).map (fun i => (i.zero, i.size, i.bytes)) = some (some (.int .u8 0), 1, 1) := by kernel_rfl

/-- the cells that memory begins with -/
def zeroRow (n : Nat) : Array Value := madeCells #[.int .u8 0] n
/-- byte k of a word, the highest first -/
def Wb (v : Int) (k : Nat) : Int := v / 2 ^ (8 * (3 - k)) % 256
/-- the bytes of memory that begins with n words -/
def ramOf (n : Nat) (ws : Nat → Int) (j : Nat) : Int := if j < 4 * n then Wb (ws (j / 4)) (j % 4) else 0

theorem ramOf_succ (i : Nat) (ws : Nat → Int) (j : Nat) : ramOf (i + 1) ws j = if 4 * i ≤ j ∧ j < 4 * i + 4 then Wb (ws i) (j - 4 * i) else ramOf i ws j := by
  unfold ramOf
  by_cases h : 4 * i ≤ j ∧ j < 4 * i + 4
  · rw [if_pos (by omega), if_pos h, show j / 4 = i by omega, show j % 4 = j - 4 * i by omega]
  · rw [if_neg h]
    by_cases h2 : j < 4 * i
    · rw [if_pos (by omega), if_pos h2]
    · rw [if_neg (by omega), if_neg h2]

theorem wb0 (v : Int) (h : v < 4294967296) (h0 : 0 ≤ v) : Wb v 0 = v / 16777216 := by simp [Wb]; omega
theorem cells4 (w : World) (v : Int) (T : TypeId) (j : Nat) (hj : j < 4) (h0 : 0 ≤ v) (h : v < 4294967296) :
    (w.alloc (.cells #[.int .u8 (v / 16777216), .int .u8 (v / 65536 % 256), .int .u8 (v / 256 % 256), .int .u8 (v % 256)] T)).cell? ((⟨w.heap.size, 0, none⟩ : Addr).add j) = some (.int .u8 (Wb v j)) := by
  rw [Addr.add_lit, Nat.zero_add, World.cell?_alloc_new]
  match j, hj with
  | 0, _ => rw [wb0 v h h0]; rfl
  | 1, _ => rfl
  | 2, _ => rfl
  | 3, _ => simp [Wb]

end Go.Proofs.YtlmnmncdoiealaaGreatDoor

/- RamLoad -/
/- The walks of ram.right, word.Wide and (*Ram).Load. -/
namespace Go.Proofs.YtlmnmncdoiealaaGreatDoor
open Go.RowKit Go.Deep
set_option linter.unusedVariables false

/-- the number of what 'right' answers -/
def rightC (a n : Int) : Nat := if n ≠ 1 ∧ n ≠ 2 ∧ n ≠ 4 then 3 else if a % n ≠ 0 then 9 else if 16384 ≤ a then 10 else 0

/-- n bytes from a on, the highest first -/
def be (m : Nat → Int) (a : Nat) : Nat → Int
  | 0 => 0
  | n + 1 => 256 * be m a n + m (a + n)

theorem rightC_ok {a n : Int} (h : rightC a n = 0) : (n = 1 ∨ n = 2 ∨ n = 4) ∧ a % n = 0 ∧ a < 16384 := by
  have hn : n = 1 ∨ n = 2 ∨ n = 4 := by unfold rightC at h; split at h <;> omega
  have h1 : a % n = 0 := by
    unfold rightC at h
    rw [if_neg (by omega)] at h
    apply Classical.byContradiction
    intro hc
    rw [if_pos hc] at h
    omega
  refine ⟨hn, h1, ?_⟩
  unfold rightC at h
  rw [if_neg (by omega), if_neg (by omega)] at h
  split at h <;> omega
theorem be_rng (m : Nat → Int) (a n : Nat) (hm : ∀ i, i < n → 0 ≤ m (a + i) ∧ m (a + i) < 256) : 0 ≤ be m a n ∧ be m a n < 256 ^ n := by
  induction n with
  | zero => exact ⟨Int.le_refl _, by show (0 : Int) < 256 ^ 0; decide⟩
  | succ n ih =>
    have h1 := ih fun i hi => hm i (by omega)
    have h2 := hm n (by omega)
    show 0 ≤ 256 * be m a n + m (a + n) ∧ 256 * be m a n + m (a + n) < 256 ^ (n + 1)
    rw [Int.pow_succ]
    omega

theorem or_byte (v b : Int) (h0 : 0 ≤ v) (h1 : v < 16777216) (h2 : 0 ≤ b) (h3 : b < 256) : bits .or .u32 (v * 256) b = 256 * v + b := by
  rw [u32_or _ _ (by omega) (by omega) (by omega) (by omega), nat_join 8 _ _ (by simp only [Nat.reducePow]; omega) (by simp only [Nat.reducePow]; omega)]
  omega

end Go.Proofs.YtlmnmncdoiealaaGreatDoor

/- RamStore -/
/- The walk of (*Ram).Store. -/
namespace Go.Proofs.YtlmnmncdoiealaaGreatDoor
open Go.RowKit Go.Deep
set_option linter.unusedVariables false

/-- the byte that a store of n bytes lays at place i -/
def sb (v : Int) (n i : Nat) : Int := v / 2 ^ (8 * (n - 1 - i)) % 256
/-- memory behind a store of the first j of n bytes -/
def stTo (m : Nat → Int) (a n : Nat) (v : Int) (j : Nat) (k : Nat) : Int := if a ≤ k ∧ k < a + j then sb v n (k - a) else m k

end Go.Proofs.YtlmnmncdoiealaaGreatDoor

/- RamWords -/
/- The walks of (*Ram).Words, of a Store that is refused, and what an empty map answers. -/
namespace Go.Proofs.YtlmnmncdoiealaaGreatDoor
open Go.RowKit Go.Deep
set_option linter.unusedVariables false

theorem int_key : Maps.Keyed Tryz.prog 3 := Maps.int_keyed Tryz.underlying3
theorem zero_bool (w : World) : (zeroValue 4).run Tryz.prog w = .ok (.bool false) w := by kernel_rfl
theorem Tryz.info_u32 : (Tryz.prog.info? 34).map (fun i => (i.zero, i.size, i.bytes)) = some (some (.int .u32 0), 1, 4) := by kernel_rfl
def zeroRow32 (n : Nat) : Array Value := madeCells #[.int .u32 0] n
theorem make_words (w : World) : (Instr.makeSlice 57 (.int .i64 4096) (.int .i64 4096)).run Tryz.prog w = .ok (.slice (some ⟨w.heap.size, 0, none⟩) 4096 4096) (w.alloc (.cells (zeroRow32 4096) 34)) :=
  run_make_row' (P := Tryz.prog) 57 34 (.int .u32 0) 4 Tryz.underlying57 Tryz.info_u32 rfl .i64 .i64 4096 (by omega) (by omega) w

theorem words_step {wr : World} {b : Nat} {T : TypeId} {m : Nat → Int} {i : Nat} {x : Int} (h : wr.rowIs b T 4096 (fun k => .int .u32 (be m (4 * k) (min 4 (i - 4 * k))))) (hx : x = 256 * be m (4 * (i / 4)) (i % 4) + m i) :
    (wr.setCell ⟨b, i / 4, none⟩ (.int .u32 x)).rowIs b T 4096 (fun k => .int .u32 (be m (4 * k) (min 4 (i + 1 - 4 * k)))) := by
  refine (h.set (i / 4) _).congr fun k hk => ?_
  by_cases e : k = i / 4
  · subst e
    rw [if_pos rfl, hx, show min 4 (i + 1 - 4 * (i / 4)) = i % 4 + 1 by omega]
    show _ = Value.int .u32 (256 * be m (4 * (i / 4)) (i % 4) + m (4 * (i / 4) + i % 4))
    rw [show 4 * (i / 4) + i % 4 = i by omega]
  · rw [if_neg e, show min 4 (i - 4 * k) = min 4 (i + 1 - 4 * k) by omega]

end Go.Proofs.YtlmnmncdoiealaaGreatDoor

/- Ref -/
/- The reference's memory as it lies; the walks of its ReachError, NewRam, at, put. -/
namespace Go.Proofs.YtlmnmncdoiealaaGreatDoor
open Go.RowKit Go.Deep
set_option linter.unusedVariables false

theorem Tryz.info_bool : (Tryz.prog.info? 4).map (fun i => (i.zero, i.size, i.bytes)) = some (some (.bool false), 1, 1) := by kernel_rfl
/-- rows that are made -/
def falseRow (n : Nat) : Array Value := madeCells #[.bool false] n
theorem be4 (m : Nat → Int) (a : Nat) : be m a 4 = 16777216 * m a + 65536 * m (a + 1) + 256 * m (a + 2) + m (a + 3) := by
  simp only [be, Nat.add_zero]
  omega

/-- the byte at a place, out of its word -/
theorem byte_of (m : Nat → Int) (a : Nat) (h : ∀ i, i < 4 → 0 ≤ m (4 * (a / 4) + i) ∧ m (4 * (a / 4) + i) < 256) : be m (4 * (a / 4)) 4 / 2 ^ (24 - 8 * ((a : Int) % 4)).toNat % 2 ^ (8 : Int).toNat = m a := by
  have h0 := h 0 (by omega)
  have h1 := h 1 (by omega)
  have h2 := h 2 (by omega)
  have h3 := h 3 (by omega)
  rw [be4]
  rw [Nat.add_zero] at h0
  have hr : a % 4 = 0 ∨ a % 4 = 1 ∨ a % 4 = 2 ∨ a % 4 = 3 := by omega
  rcases hr with hr | hr | hr | hr
  · have e : a = 4 * (a / 4) := by omega
    have e1 : (24 - 8 * ((a : Int) % 4)).toNat = 24 := by omega
    have e2 : m a = m (4 * (a / 4)) := congrArg m e
    rw [e1, e2]
    show _ / (16777216 : Int) % 256 = _
    omega
  · have e : a = 4 * (a / 4) + 1 := by omega
    have e1 : (24 - 8 * ((a : Int) % 4)).toNat = 16 := by omega
    have e2 : m a = m (4 * (a / 4) + 1) := congrArg m e
    rw [e1, e2]
    show _ / (65536 : Int) % 256 = _
    omega
  · have e : a = 4 * (a / 4) + 2 := by omega
    have e1 : (24 - 8 * ((a : Int) % 4)).toNat = 8 := by omega
    have e2 : m a = m (4 * (a / 4) + 2) := congrArg m e
    rw [e1, e2]
    show _ / (256 : Int) % 256 = _
    omega
  · have e : a = 4 * (a / 4) + 3 := by omega
    have e1 : (24 - 8 * ((a : Int) % 4)).toNat = 0 := by omega
    have e2 : m a = m (4 * (a / 4) + 3) := congrArg m e
    rw [e1, e2]
    show _ / (1 : Int) % 256 = _
    omega

end Go.Proofs.YtlmnmncdoiealaaGreatDoor

/- RefPutD -/
/- The walks of the reference's put, Load and Store. -/
namespace Go.Proofs.YtlmnmncdoiealaaGreatDoor
open Go.RowKit Go.Deep
set_option linter.unusedVariables false

/-- a byte is laid -/
def rupd (m : Nat → Int) (a : Nat) (v : Int) (i : Nat) : Int := if i = a then v else m i

/-- the word that a byte is laid into -/
theorem put_word (m : Nat → Int) (a : Nat) (v : Int) (hv : 0 ≤ v ∧ v < 256) (h : ∀ i, i < 4 → 0 ≤ m (4 * (a / 4) + i) ∧ m (4 * (a / 4) + i) < 256) :
    (be m (4 * (a / 4)) 4 - Wd.shift 60 (m a) (24 - 8 * ((a : Int) % 4)) + Wd.shift 60 v (24 - 8 * ((a : Int) % 4))) % 4294967296 = be (rupd m a v) (4 * (a / 4)) 4 := by
  have h0 := h 0 (by omega)
  have h1 := h 1 (by omega)
  have h2 := h 2 (by omega)
  have h3 := h 3 (by omega)
  rw [be4, be4]
  rw [Nat.add_zero] at h0
  simp only [rupd]
  have hr : a % 4 = 0 ∨ a % 4 = 1 ∨ a % 4 = 2 ∨ a % 4 = 3 := by omega
  rcases hr with hr | hr | hr | hr
  · have e2 : m a = m (4 * (a / 4)) := congrArg m (by omega)
    rw [if_pos (by omega), if_neg (by omega), if_neg (by omega), if_neg (by omega), e2, Wd.shift_60 _ _ 16777216 (by rw [show (24 - 8 * ((a : Int) % 4)) % 32 = 24 by omega]; rfl), Wd.shift_60 _ _ 16777216 (by rw [show (24 - 8 * ((a : Int) % 4)) % 32 = 24 by omega]; rfl)]
    omega
  · have e2 : m a = m (4 * (a / 4) + 1) := congrArg m (by omega)
    rw [if_neg (by omega), if_pos (by omega), if_neg (by omega), if_neg (by omega), e2, Wd.shift_60 _ _ 65536 (by rw [show (24 - 8 * ((a : Int) % 4)) % 32 = 16 by omega]; rfl), Wd.shift_60 _ _ 65536 (by rw [show (24 - 8 * ((a : Int) % 4)) % 32 = 16 by omega]; rfl)]
    omega
  · have e2 : m a = m (4 * (a / 4) + 2) := congrArg m (by omega)
    rw [if_neg (by omega), if_neg (by omega), if_pos (by omega), if_neg (by omega), e2, Wd.shift_60 _ _ 256 (by rw [show (24 - 8 * ((a : Int) % 4)) % 32 = 8 by omega]; rfl), Wd.shift_60 _ _ 256 (by rw [show (24 - 8 * ((a : Int) % 4)) % 32 = 8 by omega]; rfl)]
    omega
  · have e2 : m a = m (4 * (a / 4) + 3) := congrArg m (by omega)
    rw [if_neg (by omega), if_neg (by omega), if_neg (by omega), if_pos (by omega), e2, Wd.shift_60 _ _ 1 (by rw [show (24 - 8 * ((a : Int) % 4)) % 32 = 0 by omega]; rfl), Wd.shift_60 _ _ 1 (by rw [show (24 - 8 * ((a : Int) % 4)) % 32 = 0 by omega]; rfl)]
    omega
theorem shl_rng (a n : Int) : 0 ≤ Wd.shift 60 a n ∧ Wd.shift 60 a n < 4294967296 := by
  rw [Wd.shift_60 a n _ rfl]
  omega
/-- what a Load answers: the number of its error, its value -/
theorem upd_st (m : Nat → Int) (a n j : Nat) (v : Int) (k : Nat) : rupd (stTo m a n v j) (a + j) (sb v n j) k = stTo m a n v (j + 1) k := by
  unfold rupd stTo
  by_cases h : k = a + j
  · subst h
    rw [if_pos rfl, if_pos (by omega), show a + j - a = j by omega]
  · rw [if_neg h]
    by_cases h1 : a ≤ k ∧ k < a + j
    · rw [if_pos h1, if_pos (by omega)]
    · rw [if_neg h1, if_neg (by omega)]
theorem rsb_rng (v : Int) (n j : Nat) : 0 ≤ sb v n j ∧ sb v n j < 256 := by unfold sb; omega

end Go.Proofs.YtlmnmncdoiealaaGreatDoor

/- Stored -/
/- The closed fact 'stored' of the laws on memory; what New leaves, as a Ram. -/
namespace Go.Proofs.YtlmnmncdoiealaaGreatDoor
open Go.RowKit Go.Deep
set_option linter.unusedVariables false

/-- what a load without a sign gives -/
theorem wide_be {m : Nat → Int} {a n : Nat} (hn : n = 1 ∨ n = 2 ∨ n = 4) (hm : ∀ i, i < n → 0 ≤ m (a + i) ∧ m (a + i) < 256) : Wd.wide (be m a n) (8 * n) false = be m a n := by
  have h := be_rng m a n hm
  rcases hn with rfl | rfl | rfl
  all_goals
    rw [Wd.wide, if_neg (by omega), if_neg (by simp)]
    exact Int.emod_eq_of_lt h.1 h.2
theorem wide_be4 {m : Nat → Int} {a : Nat} (hm : ∀ i, i < 4 → 0 ≤ m (a + i) ∧ m (a + i) < 256) : Wd.wide (be m a 4) 32 true = be m a 4 := by
  have h := be_rng m a 4 hm
  have h2 : be m a 4 < 4294967296 := h.2
  rw [Wd.wide, if_neg (by omega)]
  simp only [true_and]
  show (if (4294967296 : Int) ≤ 2 * (be m a 4 % 4294967296) then (be m a 4 % 4294967296 - 4294967296) % 4294967296 else be m a 4 % 4294967296) = _
  split <;> omega
end Go.Proofs.YtlmnmncdoiealaaGreatDoor
