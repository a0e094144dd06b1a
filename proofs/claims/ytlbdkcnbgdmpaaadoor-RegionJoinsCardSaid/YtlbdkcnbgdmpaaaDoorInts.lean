
/- The walk of the reference's SameInts over numbers that are the same. -/
import Derived.Test.YtlbdkcnbgdmpaaaDoorMem
import Derived.Test.YtlbdkcnbgdmpaaaDoorProg
import Derived.BigQuiet
import Derived.Lib.Hide
namespace Go.Proofs.YtlbdkcnbgdmpaaaDoor
open Go.RowKit Go.Deep
set_option linter.unusedVariables false

/-- a slice of ints as it lies -/
def IntsAt (w : World) (A : Option Addr) (n cap : Nat) (f : Nat → Int) : Prop := n ≤ cap ∧ cap ≤ 9223372036854775807 ∧ (n = 0 ∨ ∃ b o, A = some ⟨b, o, none⟩ ∧ ∀ i, i < n → w.cell? ⟨b, o + i, none⟩ = some (.int .i64 (f i)))
theorem IntsAt.keep {w w' : World} {A : Option Addr} {n cap : Nat} {f : Nat → Int} (h : IntsAt w A n cap f) (k : Keeps (fun _ => False) w w') : IntsAt w' A n cap f := by
  obtain ⟨h1, h2, h3 | ⟨b, o, h3, h4⟩⟩ := h
  · exact ⟨h1, h2, .inl h3⟩
  · exact ⟨h1, h2, .inr ⟨b, o, h3, fun i hi => k.cell' (h4 i hi) (fun f => f)⟩⟩
theorem ints_new (w : World) (l : List Int) (T : TypeId) (hl : l.length ≤ 1000000) : IntsAt (w.alloc (.cells (l.map (Value.int .i64)).toArray T)) (some ⟨w.heap.size, 0, none⟩) l.length l.length (fun i => l.getD i 0) := by
  refine ⟨Nat.le_refl _, by omega, .inr ⟨_, 0, rfl, fun i hi => ?_⟩⟩
  have hb := blk_alloc_new w (.cells (l.map (Value.int .i64)).toArray T)
  rw [Nat.zero_add]
  unfold World.cell?
  rw [hb]
  simp [hi]

set_option maxRecDepth 100000 in
set_option maxHeartbeats 1000000 in
theorem sameInts_same (A B : Option Addr) (n ca cb : Nat) (f : Nat → Int) (w : World) (h1 : IntsAt w A n ca f) (h2 : IntsAt w B n cb f) :
    Calls Tryd.prog 19 #[.slice A n ca, .slice B n cb] w fun e w' => e = .returned (.bool true) ∧ Keeps (fun _ => False) w w' := by
  have b1 := h1.1
  have b2 := h2.1
  have b3 := h1.2.1
  have b4 := h2.2.1
  have H1 := Lib.hid h1
  have H2 := Lib.hid h2
  clear h1 h2
  go_enter Tryd.func19, Tryd.ntmps19
  go_wp2_with fail
  go_loopw [5] (fun s5 wr => ∃ i : Nat, i ≤ n ∧ s5 = .int .i64 i ∧ Keeps (fun _ => False) w wr) (fun s5 _ => n - (intOf s5).toNat)
  case atStart => exact ⟨0, by omega, rfl, Keeps.refl _ w⟩
  case round =>
    obtain ⟨i, hi, rfl, hK⟩ := hrel
    by_cases hlt : i < n
    · obtain ⟨ga, oa, rfl, p1⟩ : ∃ g o, A = some ⟨g, o, none⟩ ∧ wr.cell? ⟨g, o + i, none⟩ = some (.int .i64 (f i)) := by
        obtain ⟨_, _, h3 | ⟨g, o, h3, h4⟩⟩ := H1.out.keep hK
        · omega
        · exact ⟨g, o, h3, h4 i hlt⟩
      obtain ⟨gb, ob, rfl, p2⟩ : ∃ g o, B = some ⟨g, o, none⟩ ∧ wr.cell? ⟨g, o + i, none⟩ = some (.int .i64 (f i)) := by
        obtain ⟨_, _, h3 | ⟨g, o, h3, h4⟩⟩ := H2.out.keep hK
        · omega
        · exact ⟨g, o, h3, h4 i hlt⟩
      go_wp2_with fail
      go_quiet (fail)
      go_wp2_with fail
      go_roundw
      case rel => exact ⟨i + 1, by omega, by go_num, hK.drewN _⟩
      case measure => simp [intOf]; omega
    · obtain rfl : i = n := by omega
      go_wp2_with fail
      go_ret
      exact ⟨rfl, hK⟩
end Go.Proofs.YtlbdkcnbgdmpaaaDoor
