
/- The walk of (*Ram).Store. -/
import Derived.Test.YtlmnmncdoiealaaDoorRamLoad
import Derived.StillTailTactics
import Derived.Maps.OwnOps
namespace Go.Proofs.YtlmnmncdoiealaaDoor
open Go.RowKit Go.Deep
set_option linter.unusedVariables false

/-- the byte that a store of n bytes lays at place i -/
def sb (v : Int) (n i : Nat) : Int := v / 2 ^ (8 * (n - 1 - i)) % 256
/-- memory behind a store of the first j of n bytes -/
def stTo (m : Nat → Int) (a n : Nat) (v : Int) (j : Nat) (k : Nat) : Int := if a ≤ k ∧ k < a + j then sb v n (k - a) else m k

theorem RamAt.congr {w : World} {r pb pw ph cp : Nat} {m m' : Nat → Int} (h : RamAt w r pb pw ph cp m) (e : ∀ i, i < 16384 → m i = m' i) : RamAt w r pb pw ph cp m' :=
  ⟨h.box, h.bytes.congr (fun i hi => by rw [e i hi]), h.room, fun i hi => by rw [← e i hi]; exact h.rng i hi, h.apart⟩
theorem RamAt.st0 {w : World} {r pb pw ph cp : Nat} {m : Nat → Int} {a n : Nat} {v : Int} (h : RamAt w r pb pw ph cp m) : RamAt w r pb pw ph cp (stTo m a n v 0) :=
  h.congr fun i _ => by rw [stTo, if_neg (by omega)]
theorem RamAt.stored {w wr : World} {r pb pw ph cp : Nat} {m : Nat → Int} {a n i : Nat} {v : Int} (h : RamAt wr r pb pw ph cp (stTo m a n v i)) (hi : i < n) (k : Keeps (· = pb) w wr) :
    RamAt ((wr.setCell ⟨pb, a + i, none⟩ (.int .u8 (sb v n i))).drew) r pb pw ph cp (stTo m a n v (i + 1)) ∧ Keeps (· = pb) w ((wr.setCell ⟨pb, a + i, none⟩ (.int .u8 (sb v n i))).drew) := by
  refine ⟨⟨?_, ?_, h.room, ?_, h.apart⟩, (k.setCell (a := ⟨pb, a + i, none⟩) (fun _ => rfl) _).drew⟩
  · exact (blk_setCell_other wr ⟨pb, a + i, none⟩ _ r h.apart.1).trans h.box
  · refine (RowTo.drew (h.bytes.set (a + i) _)).congr fun j hj => ?_
    by_cases e : j = a + i
    · subst e
      rw [if_pos rfl, stTo, if_pos (by omega), show a + i - a = i by omega]
    · rw [if_neg e]
      unfold stTo
      by_cases h1 : a ≤ j ∧ j < a + i
      · rw [if_pos h1, if_pos (by omega)]
      · rw [if_neg h1, if_neg (by omega)]
  · intro j hj
    have := h.rng j hj
    unfold stTo at this ⊢
    by_cases h1 : a ≤ j ∧ j < a + i
    · rw [if_pos h1] at this
      rw [if_pos (by omega)]; exact this
    · rw [if_neg h1] at this
      by_cases h2 : a ≤ j ∧ j < a + (i + 1)
      · rw [if_pos h2, sb]; omega
      · rw [if_neg h2]; exact this

set_option maxRecDepth 100000 in
set_option maxHeartbeats 1000000 in
theorem store_cold (r pb pw ph cp : Nat) (m : Nat → Int) (a : Nat) (n : Nat) (v : Int) (w : World) (R : RamAt w r pb pw ph cp m) (hv : 0 ≤ v ∧ v < 4294967296) (h : rightC a n = 0)
    (hk : ∀ w', Keeps (· = pb) w w' → (Instr.lookup 84 (.map (some pw)) (.int .i64 ((a : Int) / 256)) false).run Tryd.prog w' = .ok (.bool false) w') :
    Calls Tryd.prog 17 #[.pointer (some ⟨r, 0, none⟩), .int .u32 a, .int .i64 n, .int .u32 v] w fun e w' => e = .returned .nilIface ∧ RamAt w' r pb pw ph cp (stTo m a n v n) ∧ Keeps (· = pb) w w' := by
  obtain ⟨hn, hm, ha⟩ := rightC_ok h
  have ha' : a < 16384 := by omega
  have hn4 : n ≤ 4 := by omega
  have hn1 : 1 ≤ n := by omega
  have han : a + n ≤ 16384 := by
    have hn' : n = 1 ∨ n = 2 ∨ n = 4 := by omega
    rcases hn' with rfl | rfl | rfl <;> omega
  have HK := Lib.hid hk
  obtain ⟨hcp1, hcp2⟩ := R.room
  clear hn hm ha hk
  go_enter Tryd.func17, Tryd.ntmps17
  go_wp2_with fail
  refine (right_ok _ _ _ (by omega) h).mono ?_
  rintro e w' ⟨rfl, rfl⟩
  go_wp2_with fail
  go_loopw [19] (fun s19 wr => ∃ i : Nat, i ≤ n ∧ s19 = .int .i64 i ∧ RamAt wr r pb pw ph cp (stTo m a n v i) ∧ Keeps (· = pb) w wr) (fun s19 _ => n - (intOf s19).toNat)
  case atStart => exact ⟨0, Nat.zero_le _, rfl, R.st0, Keeps.refl _ _⟩
  case round =>
    obtain ⟨i, hi, rfl, hR, hS⟩ := hrel
    by_cases hlt : i < n
    · have hb : wr.cell? ⟨r, 0, none⟩ = some (.slice (some ⟨pb, 0, none⟩) 16384 cp) := by simp [World.cell?, hR.box]
      have hc := hR.bytes.cell (i := a + i) (by omega)
      have hf := hR.bytes.frozen (a + i)
      have q1 : IntKind.i64.wrap (a : Int) = a := IntWalk.i64_in _ (by omega)
      have q2 : IntKind.i64.wrap ((a : Int) + i) = a + i := IntWalk.i64_in _ (by omega)
      have q3 : IntKind.i64.wrap ((n : Int) - 1) = n - 1 := IntWalk.i64_in _ (by omega)
      have q4 : IntKind.i64.wrap ((n : Int) - 1 - i) = n - 1 - i := IntWalk.i64_in _ (by omega)
      have q5 : IntKind.i64.wrap (8 * ((n : Int) - 1 - i)) = 8 * (n - 1 - i) := IntWalk.i64_in _ (by omega)
      have q6 : 0 ≤ 8 * ((n : Int) - 1 - i) := by omega
      have q7 : 8 * ((n : Int) - 1 - i) ≤ 32 := by omega
      have q8 : ((a : Int) + i).toNat = a + i := by omega
      have q9 : (8 * ((n : Int) - 1 - i)).toNat = 8 * (n - 1 - i) := by omega
      have q10 : 0 ≤ (a : Int) + i := by omega
      have q11 : (a : Int) + i < 16384 := by omega
      go_wp2_with fail
      go_still_tail 17, (by kernel_rfl)
      change wpList _ _ _ _ _ wr.drew
      go_wp2
      go_roundw
      case rel => exact ⟨i + 1, by omega, by go_num, (hR.stored hlt hS).1, (hR.stored hlt hS).2⟩
      case measure => simp [intOf]; omega
    · obtain rfl : i = n := by omega
      have hb : wr.cell? ⟨r, 1, none⟩ = some (.map (some pw)) := by simp [World.cell?, hR.box]
      have hl := HK.out wr hS
      go_wp2
      go_ret
      exact ⟨rfl, hR, hS⟩
end Go.Proofs.YtlmnmncdoiealaaDoor
