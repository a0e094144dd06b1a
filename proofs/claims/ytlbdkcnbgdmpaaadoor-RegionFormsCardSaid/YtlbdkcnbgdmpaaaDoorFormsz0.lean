import Derived.Test.YtlbdkcnbgdmpaaaDoorTakesz0
import Derived.Test.YtlbdkcnbgdmpaaaDoorTakesz1

/- RefIs -/
/- The walks of the reference's Part and IsOf. -/
namespace Go.Proofs.YtlbdkcnbgdmpaaaDoor
open Go.RowKit Go.Deep
set_option linter.unusedVariables false

theorem part_n (v : Int) (u n : Nat) (hu : u < 32) (hn : n < 32) (hv : 0 ≤ v ∧ v < 4294967296) (w : World) :
    Calls Tryd.prog 56 #[.int .u32 v, .int .i64 u, .int .i64 n] w fun e w' => e = .returned (.int .i64 (Cd.part v u n)) ∧ w = w' :=
  part_any v u n w hv (by omega) (by omega)
/-- a text has a letter -/
theorem has_step (l : List UInt8) (c : UInt8) (i : Nat) (hi : i < l.length) : Cd.has (l.take (i + 1)) c = (Cd.has (l.take i) c || l[i] == c) := by
  unfold Cd.has
  rw [List.take_succ_eq_append_getElem hi, List.contains_append]
  congr 1
  rw [List.contains_cons, List.contains_nil, Bool.or_false, Bool.beq_comm]
set_option maxHeartbeats 1000000 in
theorem isOf_any (l : List UInt8) (c : UInt8) (hl : l.length < 100) (w : World) :
    Calls Tryd.prog 55 #[.string ⟨l.toArray⟩, .int .u8 c.toNat] w fun e w' => e = .returned (.bool (Cd.has l c)) ∧ w = w' := by
  have hsz : (⟨l.toArray⟩ : ByteArray).size = l.length := by simp [ByteArray.size]
  go_enter Tryd.func55, Tryd.ntmps55
  go_wp2_with fail
  go_loopw [5] (fun s5 wr => ∃ i : Nat, i ≤ l.length ∧ s5 = .int .i64 i ∧ Cd.has (l.take i) c = false ∧ w = wr) (fun s5 _ => l.length - (intOf s5).toNat)
  case atStart => exact ⟨0, by omega, rfl, rfl, rfl⟩
  case round =>
    obtain ⟨i, hi, rfl, hf, rfl⟩ := hrel
    by_cases hlt : i < l.length
    · have hs := has_step l c i hlt
      rw [hf, Bool.false_or] at hs
      have ht : ((((⟨l.toArray⟩ : ByteArray)[i]'(by rw [hsz]; exact hlt)).toNat : Int) == (c.toNat : Int)) = (l[i] == c) := by
        have e : (⟨l.toArray⟩ : ByteArray)[i]'(by rw [hsz]; exact hlt) = l[i] := rfl
        rw [e, Bool.eq_iff_iff, beq_iff_eq, beq_iff_eq]
        constructor
        · intro h
          exact UInt8.toNat_inj.1 (by omega)
        · intro h
          rw [h]
      cases hb : (l[i] == c)
      · rw [hb] at hs ht
        clear hb
        go_wp2_with fail
        go_roundw
        case rel => exact ⟨i + 1, by omega, by go_num, hs, trivial⟩
        case measure => simp [intOf]; omega
      · rw [hb] at hs ht
        have HF : Hid (Cd.has l c = true) := Lib.hid (by
          unfold Cd.has at hs ⊢
          rw [List.contains_iff_mem] at hs ⊢
          exact List.mem_of_mem_take hs)
        clear hb
        go_wp2_with fail
        go_ret
        exact ⟨by rw [HF.out]; rfl, rfl⟩
    · obtain rfl : i = l.length := by omega
      rw [List.take_length] at hf
      have HF := Lib.hid hf
      clear hf
      go_wp2_with fail
      go_ret
      exact ⟨by rw [HF.out]; rfl, rfl⟩
end Go.Proofs.YtlbdkcnbgdmpaaaDoor
