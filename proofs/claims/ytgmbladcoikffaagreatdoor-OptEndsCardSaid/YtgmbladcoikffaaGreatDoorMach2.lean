
/- The walks of Ready, Over, Where, Watched, May. -/
import Derived.Test.YtgmbladcoikffaaGreatDoorMach
import Derived.Test.YtgmbladcoikffaaGreatDoorIrOp
import Derived.Test.YtgmbladcoikffaaGreatDoorSumsD
import Derived.Test.YtgmbladcoikffaaGreatDoorStored
namespace Go.Proofs.YtgmbladcoikffaaGreatDoor
open Go.RowKit Go.Deep
set_option linter.unusedVariables false
set_option linter.unusedSimpArgs false

/-- is a state one that a code at pc begins with? -/
def Ir.ready (s : Cp.St) (pc : Int) : Bool := !s.slot && (s.pc == pc) && (s.next == (pc + 4) % 4294967296)
set_option maxRecDepth 100000 in
theorem ready_any (sb : Nat) (s : Cp.St) (pc : Int) (w : World) (hS : StAt w sb s) (hpc : 0 ≤ pc ∧ pc < 4294967296) :
    Calls Tryz.prog 49 #[.pointer (some ⟨sb, 0, none⟩), .int .u32 pc] w fun e w' => e = .returned (.bool (Ir.ready s pc)) ∧ w = w' := by
  obtain ⟨_, _, p2, p3, p4, _⟩ := hS.cells
  obtain ⟨r, hr⟩ : ∃ r, Ir.ready s pc = r := ⟨_, rfl⟩
  rw [hr]
  unfold Ir.ready at hr
  obtain ⟨q, hq⟩ : ∃ q, (s.next == (pc + 4) % 4294967296) = q := ⟨_, rfl⟩
  have hq2 := hq
  rw [hq] at hr
  generalize s.slot = sl at *
  generalize s.pc = sp at *
  generalize s.next = sn at *
  have HR := Lib.hid hr
  clear hr hS
  cases sl
  · cases hp : (sp == pc)
    · have HE := Lib.hid (show r = false by rw [← HR.out, hp]; rfl)
      have HR := ()
      go_enter Tryz.func49, Tryz.ntmps49
      go_wp2_with fail
      go_ret
      exact ⟨by rw [HE.out]; rfl, rfl⟩
    · have HE := Lib.hid (show r = q by rw [← HR.out, hp]; rfl)
      have HR := ()
      clear hq2
      cases q
      all_goals
        go_enter Tryz.func49, Tryz.ntmps49
        go_wp2_with fail
        go_ret
        exact ⟨by rw [HE.out]; rfl, rfl⟩
  · have HE := Lib.hid (show r = false by rw [← HR.out]; rfl)
    have HR := ()
    go_enter Tryz.func49, Tryz.ntmps49
    go_wp2_with fail
    go_ret
    exact ⟨by rw [HE.out]; rfl, rfl⟩
theorem is_overm (k : ByteArray) : (k.toList == [111, 118, 101, 114, 45]) = (Ir.kn k == 4) := Ir.eq_lit2 k 4 (by omega)
set_option maxRecDepth 100000 in
theorem over_any (k : ByteArray) (a b : Int) (w : World) (ha : 0 ≤ a ∧ a < 4294967296) (hb : 0 ≤ b ∧ b < 4294967296) :
    Calls Tryz.prog 89 #[.string k, .int .u32 a, .int .u32 b] w fun e w' => e = .returned (.bool (Ir.overV (Ir.kn k) a b)) ∧ w = w' := by
  have h4 := is_overm k
  have HV : Hid (Ir.overV (Ir.kn k) a b = if (Ir.kn k == 4) = true then !Wd.isS (Wd.sg a - Wd.sg b) else !Wd.isS (Wd.sg a + Wd.sg b)) := Lib.hid (by unfold Ir.overV; simp)
  generalize Ir.overV (Ir.kn k) a b = r at *
  have HA := Lib.hid (fun w => add_any a b w ha hb)
  have HS := Lib.hid (fun w => sub_any a b w ha hb)
  cases h : (Ir.kn k == 4)
  · rw [h] at h4 HV
    clear h
    go_enter Tryz.func89, Tryz.ntmps89
    go_wp2_with fail
    refine (HA.out _).mono ?_
    rintro e w' ⟨rfl, rfl⟩
    go_wp2_with fail
    go_ret
    exact ⟨by rw [HV.out]; rfl, rfl⟩
  · rw [h] at h4 HV
    clear h
    go_enter Tryz.func89, Tryz.ntmps89
    go_wp2_with fail
    refine (HA.out _).mono ?_
    rintro e w' ⟨rfl, rfl⟩
    go_wp2_with fail
    refine (HS.out _).mono ?_
    rintro e w' ⟨rfl, rfl⟩
    go_wp2_with fail
    go_ret
    exact ⟨by rw [HV.out]; rfl, rfl⟩
/-- what is watched, as it lies -/
def WatchAt (w : World) (pw : Nat) (W : Int → Bool) : Prop := ∃ es c, w.heap[pw]? = some (.map es c) ∧ ∀ w' : World, w'.heap[pw]? = some (.map es c) → ∀ p : Int, 0 ≤ p → p < 64 →
  (Instr.lookup 110 (.map (some pw)) (.int .i64 p) false).run Tryz.prog w' = .ok (.bool (W p)) w'
theorem WatchAt.keep {S : Nat → Prop} {w w' : World} {pw : Nat} {W : Int → Bool} (h : WatchAt w pw W) (k : Keeps S w w') (hs : ¬ S pw) : WatchAt w' pw W := by
  obtain ⟨es, c, h1, h2⟩ := h
  exact ⟨es, c, k.map h1 hs, h2⟩
theorem WatchAt.look {w : World} {pw : Nat} {W : Int → Bool} (h : WatchAt w pw W) (p : Int) (h0 : 0 ≤ p) (h1 : p < 64) : (Instr.lookup 110 (.map (some pw)) (.int .i64 p) false).run Tryz.prog w = .ok (.bool (W p)) w := by
  obtain ⟨es, c, h2, h3⟩ := h
  exact h3 w h2 p h0 h1
theorem WatchAt.lt {w : World} {pw : Nat} {W : Int → Bool} (h : WatchAt w pw W) : pw < w.heap.size := by
  obtain ⟨es, c, h2, h3⟩ := h
  exact (Array.getElem?_eq_some_iff.1 h2).1
set_option maxRecDepth 100000 in
theorem watched_any (r pb pw ph cp : Nat) (m : Nat → Int) (W : Int → Bool) (a : Int) (w : World) (R : RamAt w r pb pw ph cp m) (hW : WatchAt w pw W) (ha : 0 ≤ a ∧ a < 16384) :
    Calls Tryz.prog 132 #[.pointer (some ⟨r, 0, none⟩), .int .u32 a] w fun e w' => e = .returned (.bool (W (a / 256))) ∧ w = w' := by
  have hb : w.cell? ⟨r, 1, none⟩ = some (.map (some pw)) := by simp [World.cell?, R.box]
  have hl := hW.look (a / 256) (by omega) (by omega)
  clear R hW
  generalize W (a / 256) = q at *
  go_enter Tryz.func132, Tryz.ntmps132
  go_wp2_with fail
  go_ret
  exact ⟨rfl, rfl⟩
end Go.Proofs.YtgmbladcoikffaaGreatDoor
