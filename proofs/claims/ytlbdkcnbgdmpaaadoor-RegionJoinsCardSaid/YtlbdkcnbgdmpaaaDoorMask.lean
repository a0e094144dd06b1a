
/- The walks of mask, fixed, lay. -/
import Derived.Test.YtlbdkcnbgdmpaaaDoorCodeOf
import Derived.Test.YtlbdkcnbgdmpaaaDoorCodeTest
import Derived.Laws.RangeString
import Derived.StillTailTactics
namespace Go.Proofs.YtlbdkcnbgdmpaaaDoor
open Go.RowKit Go.Deep
set_option linter.unusedVariables false

theorem maskOf_take (l : List UInt8) (k : Nat) (h : k < l.length) : maskOf (l.take (k + 1)) = bits .or .u32 (maskOf (l.take k)) (fmask l[k]) := by
  unfold maskOf
  rw [List.take_succ_eq_append_getElem h, List.foldl_append]
  rfl
/-- where a text's iterator stands -/
def iterAt (w : World) (b : Nat) : Nat := match w.heap[b]? with
  | some (.stringIter _ p) => p
  | _ => 0
theorem iterAt_iter (w : World) (y : Nat) (hy : w.heap.size = y) (s : ByteArray) (p : Nat) : iterAt (w.iter s p) y = p := by
  subst hy
  unfold iterAt
  rw [World.iter_heap]
theorem next_at (w : World) (y : Nat) (hy : w.heap.size = y) (l : List UInt8) (k : Nat) (ty : TypeId) (h : k < l.length) (c : UInt8) (hc : l[k] = c) (ha : c.toNat < 128) (n : Int) (hn : (c.toNat : Int) = n) :
    (Instr.next (.pointer (some ⟨y, 0, none⟩)) true ty).run Tryd.prog (w.iter ⟨l.toArray⟩ k) = .ok (.tuple #[.bool true, .int .i64 k, .int .i32 n]) (w.iter ⟨l.toArray⟩ (k + 1)) := by
  subst hy
  have e : (⟨l.toArray⟩ : ByteArray)[k]'h = c := hc
  have := run_next_ascii (P := Tryd.prog) w ⟨l.toArray⟩ k ty h (by rw [e]; exact ha)
  rw [this, e, hn]
theorem next_end (w : World) (y : Nat) (hy : w.heap.size = y) (l : List UInt8) (k : Nat) (ty : TypeId) (h : ¬ k < l.length) :
    (Instr.next (.pointer (some ⟨y, 0, none⟩)) true ty).run Tryd.prog (w.iter ⟨l.toArray⟩ k) = .ok (.tuple #[.bool false]) (w.iter ⟨l.toArray⟩ k) :=
  hy ▸ run_next_end (P := Tryd.prog) w ⟨l.toArray⟩ k ty h

theorem place_83 (w : World) : Calls Tryd.prog 62 #[.int .i32 83] w fun e w' => e = .returned (.tuple #[.int .i64 21, .int .i64 5]) ∧ w = w' := place_any 83 (by unfold Letter; decide) w
theorem place_84 (w : World) : Calls Tryd.prog 62 #[.int .i32 84] w fun e w' => e = .returned (.tuple #[.int .i64 16, .int .i64 5]) ∧ w = w' := place_any 84 (by unfold Letter; decide) w
theorem place_68 (w : World) : Calls Tryd.prog 62 #[.int .i32 68] w fun e w' => e = .returned (.tuple #[.int .i64 11, .int .i64 5]) ∧ w = w' := place_any 68 (by unfold Letter; decide) w
theorem place_97 (w : World) : Calls Tryd.prog 62 #[.int .i32 97] w fun e w' => e = .returned (.tuple #[.int .i64 6, .int .i64 5]) ∧ w = w' := place_any 97 (by unfold Letter; decide) w
theorem place_105 (w : World) : Calls Tryd.prog 62 #[.int .i32 105] w fun e w' => e = .returned (.tuple #[.int .i64 0, .int .i64 16]) ∧ w = w' := place_any 105 (by unfold Letter; decide) w
theorem place_106 (w : World) : Calls Tryd.prog 62 #[.int .i32 106] w fun e w' => e = .returned (.tuple #[.int .i64 0, .int .i64 26]) ∧ w = w' := place_any 106 (by unfold Letter; decide) w
set_option maxRecDepth 100000 in
set_option maxHeartbeats 2000000 in
theorem mask_any (l : List UInt8) (hl : ∀ c ∈ l, Letter c) (nm ks : ByteArray) (mj mn : Int) (w : World) :
    Calls Tryd.prog 60 #[.agg #[.string nm, .int .u32 mj, .int .u32 mn, .string ⟨l.toArray⟩, .string ks]] w fun e w' => e = .returned (.int .u32 (maskOf l)) ∧ Keeps (fun _ => False) w w' := by
  have HL := Lib.hid hl
  clear hl
  go_enter Tryd.func60, Tryd.ntmps60
  go_wp2_with fail
  have kb := (Keeps.refl (fun _ => False) w).alloc (.cells #[.string nm, .int .u32 mj, .int .u32 mn, .string ⟨l.toArray⟩, .string ks] 83)
  have hy : (w.alloc (.cells #[.string nm, .int .u32 mj, .int .u32 mn, .string ⟨l.toArray⟩, .string ks] 83)).heap.size = w.heap.size + 1 := by simp
  have HK := Lib.hid kb
  have HY := Lib.hid hy
  clear kb hy
  generalize w.alloc (.cells #[.string nm, .int .u32 mj, .int .u32 mn, .string ⟨l.toArray⟩, .string ks] 83) = wb at *
  generalize w.heap.size + 1 = y at *
  go_loopw [3] (fun s3 wr => ∃ k : Nat, k ≤ l.length ∧ wr = wb.iter ⟨l.toArray⟩ k ∧ s3 = .int .u32 (maskOf (l.take k))) (fun _ wr => l.length - iterAt wr y)
  case atStart => exact ⟨0, by omega, rfl, rfl⟩
  case round =>
    obtain ⟨k, hk, rfl, rfl⟩ := hrel
    by_cases hlt : k < l.length
    · have HM := Lib.hid (maskOf_take l k hlt)
      have hc := HL.out l[k] (List.getElem_mem hlt)
      rcases hc with hc | hc | hc | hc | hc | hc
      all_goals
        have hn := fun ty => next_at wb y HY.out l k ty hlt _ hc (by decide) _ rfl
        have HC := Lib.hid hc
        clear hc
        go_wp2_with fail
        (first | with_reducible refine (place_83 _).mono ?_ | with_reducible refine (place_84 _).mono ?_ | with_reducible refine (place_68 _).mono ?_ | with_reducible refine (place_97 _).mono ?_ | with_reducible refine (place_105 _).mono ?_ | with_reducible refine (place_106 _).mono ?_)
        rintro e w' ⟨rfl, rfl⟩
        go_wp2_with fail
        go_roundw
        case rel => exact ⟨k + 1, by omega, rfl, by rw [HM.out, HC.out]; rfl⟩
        case measure => rw [iterAt_iter _ _ HY.out, iterAt_iter _ _ HY.out]; omega
    · have hn := fun ty => next_end wb y HY.out l k ty hlt
      obtain rfl : k = l.length := by omega
      have HT := Lib.hid (show maskOf (l.take l.length) = maskOf l by rw [List.take_length])
      go_wp2_with fail
      go_ret
      exact ⟨by rw [← HT.out]; rfl, HK.out.trans ((Keeps.refl (fun _ => False) wb).alloc (.stringIter ⟨l.toArray⟩ l.length)) (fun _ _ h => h)⟩
end Go.Proofs.YtlbdkcnbgdmpaaaDoor
