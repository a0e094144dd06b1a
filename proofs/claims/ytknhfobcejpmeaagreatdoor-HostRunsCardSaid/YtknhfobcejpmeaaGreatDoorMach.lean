
/- A code's machine as it lies; the walk of NewMachine. -/
import Derived.Test.YtknhfobcejpmeaaGreatDoorMachDefs
import Derived.Test.YtknhfobcejpmeaaGreatDoorStDefs
import Derived.StillTailTactics
import Derived.Deep.RegionHeld3
import Derived.LoopTactic
import Derived.Deep.DeepCutAuto
import Derived.Deep.CutRange
import Derived.WalkLawsBesides
import Derived.BigQuiet
import Derived.Lib.Hide
namespace Go.Proofs.YtknhfobcejpmeaaGreatDoor
open Go.RowKit Go.Deep
set_option linter.unusedVariables false
set_option linter.unusedSimpArgs false

/-- the cells of a machine -/
def machF (X : Nat → Int) (rp : Nat) (v : Value) (k : Nat) : Value := if k < 64 then .int .u32 (X k) else if k = 64 then .pointer (some ⟨rp, 0, none⟩) else v
/-- the cells of stores that wait -/
def wtL (l : List Ir.Wt) : List Value := l.flatMap (fun s => [.int .u32 s.addr, .int .i64 s.size, .int .u32 s.v])
/-- A MACHINE LIES AT BLOCK mb; all that is its own lies from B on -/
structure MachAt (w : World) (B mb rp : Nat) (c : Ir.Mc) : Prop where
  row : ∃ v, w.rowIs mb 173 66 (machF c.X rp v) ∧ w.ownsRow B 183 3 v c.ws.length (wtL c.ws) ∧ ∀ g, v.ownBlock = some g → g ≠ mb
  low : B ≤ mb
theorem rowIs_lt {w : World} {b : Nat} {t : TypeId} {n : Nat} {f : Nat → Value} (h : w.rowIs b t n f) : b < w.heap.size := by
  obtain ⟨c, hb, _⟩ := h
  exact (Array.getElem?_eq_some_iff.1 hb).1
theorem rowIs_cell {w : World} {b : Nat} {t : TypeId} {n : Nat} {f : Nat → Value} (h : w.rowIs b t n f) (i : Nat) (hi : i < n) : w.cell? ⟨b, i, none⟩ = some (f i) := by
  obtain ⟨c, hb, _, hc⟩ := h
  unfold World.cell?
  rw [hb]
  exact hc i hi
theorem rowIs_frozen {w : World} {b : Nat} {t : TypeId} {n : Nat} {f : Nat → Value} (h : w.rowIs b t n f) (i : Nat) : w.frozen? ⟨b, i, none⟩ = false := by
  obtain ⟨c, hb, _, _⟩ := h
  exact frozen_of_block hb i
theorem keeps_rowIs {S : Nat → Prop} {w w' : World} {b : Nat} {t : TypeId} {n : Nat} {f : Nat → Value} (k : Keeps S w w') (h : w.rowIs b t n f) (hs : ¬ S b) : w'.rowIs b t n f := by
  obtain ⟨c, hb, h1, h2⟩ := h
  exact ⟨c, (k.block b (Array.getElem?_eq_some_iff.1 hb).1 hs).trans hb, h1, h2⟩
theorem MachAt.keep {S : Nat → Prop} {w w' : World} {B mb rp : Nat} {c : Ir.Mc} (h : MachAt w B mb rp c) (k : Keeps S w w') (hs : ∀ b, B ≤ b → ¬ S b) : MachAt w' B mb rp c := by
  obtain ⟨⟨v, h1, h2, h3⟩, h4⟩ := h
  refine ⟨⟨v, keeps_rowIs k h1 (hs _ h4), owns_keep h2 k (fun g hg => ?_), h3⟩, h4⟩
  obtain ⟨_, ⟨h5, _⟩ | ⟨g2, cap, cur, h5, h6, _⟩⟩ := h2
  · rw [h5] at hg; cases hg
  · rw [h5] at hg
    injection hg with hg
    subst hg
    exact hs _ h6
theorem MachAt.lt {w : World} {B mb rp : Nat} {c : Ir.Mc} (h : MachAt w B mb rp c) : mb < w.heap.size := by
  obtain ⟨⟨v, h1, _⟩, _⟩ := h
  exact rowIs_lt h1
theorem MachAt.reg {w : World} {B mb rp : Nat} {c : Ir.Mc} (h : MachAt w B mb rp c) (k : Nat) (hk : k < 64) : w.cell? ⟨mb, k, none⟩ = some (.int .u32 (c.X k)) ∧ w.frozen? ⟨mb, k, none⟩ = false := by
  obtain ⟨⟨v, h1, _⟩, _⟩ := h
  have := rowIs_cell h1 k (by omega)
  rw [machF, if_pos hk] at this
  exact ⟨this, rowIs_frozen h1 k⟩
theorem MachAt.ram {w : World} {B mb rp : Nat} {c : Ir.Mc} (h : MachAt w B mb rp c) : w.cell? ⟨mb, 64, none⟩ = some (.pointer (some ⟨rp, 0, none⟩)) := by
  obtain ⟨⟨v, h1, _⟩, _⟩ := h
  exact rowIs_cell h1 64 (by omega)
/-- a register is set -/
theorem MachAt.set {w : World} {B mb rp : Nat} {c : Ir.Mc} (h : MachAt w B mb rp c) (k : Nat) (hk : k < 64) (x : Int) :
    MachAt (w.setCell ⟨mb, k, none⟩ (.int .u32 x)) B mb rp { c with X := Ir.setX c.X k x } ∧ Keeps (· = mb) w (w.setCell ⟨mb, k, none⟩ (.int .u32 x)) := by
  obtain ⟨⟨v, h1, h2, h3⟩, h4⟩ := h
  refine ⟨⟨⟨v, (h1.set k _).congr (fun i hi => ?_), owns_keep h2 (Keeps.one w mb k _) (fun g hg => h3 g hg), h3⟩, h4⟩, Keeps.one _ _ _ _⟩
  unfold machF
  by_cases e : i = k
  · subst e
    rw [if_pos rfl, if_pos hk]
    simp [Ir.setX]
  · rw [if_neg e]
    by_cases h64 : i < 64
    · rw [if_pos h64, if_pos h64]
      simp [Ir.setX, e]
    · rw [if_neg h64, if_neg h64]
def mach0 (rp : Nat) : List Value := (List.range 64).map (fun _ => .int .u32 0) ++ [.pointer (some ⟨rp, 0, none⟩), .slice none 0 0]
theorem mach0_row (w : World) (rp : Nat) : (w.alloc (.cells (mach0 rp).toArray 173)).rowIs w.heap.size 173 66 (machF (fun _ => 0) rp (.slice none 0 0)) := by
  refine ⟨_, blk_alloc_new _ _, by simp [mach0], fun i hi => ?_⟩
  unfold machF mach0
  rw [List.getElem?_toArray]
  by_cases h : i < 64
  · rw [if_pos h, List.getElem?_append_left (by simpa using h)]
    simp [h]
  · rw [if_neg h, List.getElem?_append_right (by simp; omega)]
    have : i = 64 ∨ i = 65 := by omega
    rcases this with rfl | rfl <;> simp
theorem mach0_lit (rp : Nat) : (mach0 rp).toArray = Tryz.zeroCells173.setIfInBounds 64 (.pointer (some ⟨rp, 0, none⟩)) := by kernel_rfl
/-- the machine that a state begins with -/
def Ir.mc0 (s : Cp.St) : Ir.Mc := ⟨fun k => if k < 32 then s.R k else if k = 32 then s.hi else if k = 33 then s.lo else 0, []⟩
set_option maxHeartbeats 4000000 in
set_option maxRecDepth 100000 in
theorem newMachine_any (sb rp : Nat) (s : Cp.St) (w : World) (hS : StAt w sb s) :
    Calls Tryz.prog 58 #[.pointer (some ⟨sb, 0, none⟩), .pointer (some ⟨rp, 0, none⟩)] w fun e w' => ∃ mb, e = .returned (.pointer (some ⟨mb, 0, none⟩)) ∧ MachAt w' w.heap.size mb rp (Ir.mc0 s) ∧ Keeps (fun _ => False) w w' := by
  have HS := Lib.hid hS
  have HR0 := Lib.hid (mach0_row w rp)
  have HK0 := Lib.hid ((Keeps.refl (fun _ => False) w).alloc (.cells (mach0 rp).toArray 173))
  rw [mach0_lit] at HR0 HK0
  clear hS
  go_enter Tryz.func58, Tryz.ntmps58
  go_upto_region 2 with fail
  obtain ⟨mb, hmb⟩ : ∃ b, w.heap.size = b := ⟨_, rfl⟩
  have HMB := Lib.hid hmb
  rw [hmb] at HR0 ⊢
  clear hmb
  generalize w.alloc _ = w1 at *
  go_still_tail 8, (by kernel_rfl)
  change wpList _ _ _ _ _ w1.drew
  have HM1 := Lib.hid (HR0.out.drew)
  have HK1 := Lib.hid (HK0.out.drew)
  have HS1 := Lib.hid (HS.out.keep HK1.out (fun h => h))
  clear HR0 HK0
  generalize w1.drew = w2 at *
  refine wpList_copy_rowIs rfl (.tmp 12) (.tmp 16) 27 27 rfl 22 Tryz.underlying27 (by kernel_rfl) mb 0 64 64 ⟨sb, 0, none⟩ 32 32 rfl rfl 173 66 _ HM1.out 32 (fun k => .int .u32 (s.R k)) (by decide) ?a2 (by omega) (fun _ _ => rfl) ?a5
  case a2 =>
    intro j hj
    rw [Addr.add_lit, Nat.zero_add]
    exact HS1.out.reg j hj
  case a5 =>
    intro w3 hrow hk3
    have HROW := Lib.hid hrow
    have HK3 := Lib.hid hk3
    have HNE := Lib.hid (show sb ≠ mb by have := HS.out.lt; have := HMB.out; omega)
    have hne2 := HNE.out
    have hr := hrow.congr (g := machF (fun k => if k < 32 then s.R k else 0) rp (.slice none 0 0)) (fun i hi => by
      unfold machF
      by_cases h : i < 32
      · rw [if_pos ⟨Nat.zero_le _, by omega⟩, if_pos (by omega)]
        simp [h]
      · rw [if_neg (by omega)]
        simp [h])
    have HR3 := Lib.hid hr
    have HS3 := Lib.hid (HS1.out.keep hk3 hne2)
    have q0 := rowIs_cell hr 32 (by omega)
    have q1 := rowIs_cell hr 33 (by omega)
    have q2 := rowIs_frozen hr 32
    have q3 := rowIs_frozen hr 33
    rw [machF, if_pos (by omega)] at q0 q1
    obtain ⟨p0, p1, _⟩ := HS3.out.cells
    clear hrow hk3 hr
    go_upto_region 3 with fail
    go_region_held3 (fun w' => Keeps (· = mb) w3 w' ∧ w'.cell? ⟨sb, 32, none⟩ = some (.int .u32 s.hi) ∧ w'.cell? ⟨sb, 33, none⟩ = some (.int .u32 s.lo))
      (first | (refine ⟨?_, ?_, ?_⟩ <;> first | ((repeat (first | (with_reducible assumption) | (with_reducible (exact Keeps.refl _ _)) | (with_reducible (apply Keeps.drew)) | (refine Keeps.setCell (S := fun x => x = mb) (a := ⟨mb, _, none⟩) ?_ (fun _ => rfl) _))); done) | (refine Keeps.cell' (S := (· = mb)) (w := w3) ?_ (by assumption) hne2; (repeat (first | (with_reducible assumption) | (with_reducible (exact Keeps.refl _ _)) | (with_reducible (apply Keeps.drew)) | (refine Keeps.setCell (S := fun x => x = mb) (a := ⟨mb, _, none⟩) ?_ (fun _ => rfl) _))); done)) | (trace_state; fail))
      (fail)
    rename_i hh
    have HKH := Lib.hid hh.1
    have HRW := Lib.hid ((((HR3.out.set 32 (.int .u32 s.hi)).set 33 (.int .u32 s.lo)).drew).congr (g := machF (Ir.mc0 s).X rp (.slice none 0 0)) (fun i hi => by
      unfold machF Ir.mc0
      by_cases h33 : i = 33
      · subst h33; rfl
      · rw [if_neg h33]
        by_cases h32 : i = 32
        · subst h32; rfl
        · rw [if_neg h32]
          simp [h32, h33]))
    clear hh q0 q1 q2 q3 p0 p1
    generalize World.drew _ = w4 at *
    go_wp2_with fail
    go_ret
    refine ⟨mb, rfl, ⟨⟨.slice none 0 0, HRW.out, World.ownsRow_nil _ _ _ _, fun g hg => by cases hg⟩, Nat.le_of_eq HMB.out⟩, ?_⟩
    exact (HK1.out.trans HK3.out (fun b hb e => by have e : b = mb := e; have := HMB.out; omega)).trans HKH.out (fun b hb e => by have e : b = mb := e; have := HMB.out; omega)
end Go.Proofs.YtknhfobcejpmeaaGreatDoor
