
/- The walks of bus.device, bus.New and (*Bus).Load. -/
import Derived.Test.YtlbdkcnbgdmpaaaDoorBusTold
import Derived.Test.YtlbdkcnbgdmpaaaDoorRamKeeps
namespace Go.Proofs.YtlbdkcnbgdmpaaaDoor
open Go.RowKit Go.Deep
set_option linter.unusedVariables false

/-- the number of what 'device' answers -/
def devC (a n : Int) : Nat := if n ≠ 1 ∧ n ≠ 2 ∧ n ≠ 4 then 3 else if a % n ≠ 0 then 9 else if n ≠ 4 ∨ a < 65536 ∨ 65548 < a then 10 else 0
theorem devC_ok {a n : Int} (h : devC a n = 0) : n = 4 ∧ a % 4 = 0 ∧ 65536 ≤ a ∧ a ≤ 65548 := by
  unfold devC at h
  split at h
  · cases h
  · split at h
    · cases h
    · split at h
      · cases h
      · have : n = 4 := by omega
        subst this
        omega

set_option maxHeartbeats 400000 in
theorem device_ok (a n : Int) (w : World) (ha : 0 ≤ a ∧ a < 4294967296) (h : devC a n = 0) :
    Calls Tryd.prog 97 #[.int .u32 a, .int .i64 n] w fun e w' => e = .returned .nilIface ∧ w = w' := by
  obtain ⟨rfl, h1, h2, h3⟩ := devC_ok h
  clear h
  have t1 : ¬ a < 65536 := by omega
  have t2 : ¬ 65548 < a := by omega
  go_enter Tryd.func97, Tryd.ntmps97
  go_wp2
  go_ret
  exact ⟨rfl, rfl⟩
set_option maxHeartbeats 400000 in
theorem device_bad (a n : Int) (w : World) (ea : Nat → Addr) (E : Errs3 w ea) (ha : 0 ≤ a ∧ a < 4294967296) (h : devC a n ≠ 0) :
    Calls Tryd.prog 97 #[.int .u32 a, .int .i64 n] w fun e w' => e = .returned (errV ea (devC a n)) ∧ w = w' := by
  obtain ⟨e1, e2, e3⟩ := E
  by_cases hn : n ≠ 1 ∧ n ≠ 2 ∧ n ≠ 4
  · have hr : devC a n = 3 := by rw [devC, if_pos hn]
    rw [hr]
    have n1 : (n != 1) = true := by simpa using hn.1
    have n2 : (n != 2) = true := by simpa using hn.2.1
    have n4 : (n != 4) = true := by simpa using hn.2.2
    clear hn
    go_enter Tryd.func97, Tryd.ntmps97
    go_wp2
    go_ret
    exact ⟨rfl, rfl⟩
  · have hn' : n = 1 ∨ n = 2 ∨ n = 4 := by omega
    by_cases hm : a % n = 0
    · have hf : n ≠ 4 ∨ a < 65536 ∨ 65548 < a := by
        apply Classical.byContradiction
        intro hc
        exact h (by rw [devC, if_neg hn, if_neg (by omega), if_neg hc])
      have hr : devC a n = 10 := by rw [devC, if_neg hn, if_neg (by omega), if_pos hf]
      rw [hr]
      clear hn hr h
      rcases hn' with rfl | rfl | rfl
      · go_enter Tryd.func97, Tryd.ntmps97
        go_wp2
        go_ret
        exact ⟨rfl, rfl⟩
      · go_enter Tryd.func97, Tryd.ntmps97
        go_wp2
        go_ret
        exact ⟨rfl, rfl⟩
      · by_cases t1 : a < 65536
        · clear hf
          go_enter Tryd.func97, Tryd.ntmps97
          go_wp2
          go_ret
          exact ⟨rfl, rfl⟩
        · have t2 : 65548 < a := by omega
          clear hf
          go_enter Tryd.func97, Tryd.ntmps97
          go_wp2
          go_ret
          exact ⟨rfl, rfl⟩
    · have hr : devC a n = 9 := by rw [devC, if_neg hn, if_pos hm]
      rw [hr]
      clear hn hr h
      rcases hn' with rfl | rfl | rfl
      · exfalso; omega
      all_goals
        go_enter Tryd.func97, Tryd.ntmps97
        go_wp2
        go_ret
        exact ⟨rfl, rfl⟩

/-- what New leaves: a Ram and a box -/
structure BusNew (w w' : World) (ws : Nat → Int) (n : Nat) (b r pb pw ph : Nat) : Prop where
  bus : BusAt w' b r (.slice none 0 0) 0 [] 0 (.slice none 0 0) 0 []
  ram : RamAt w' r pb pw ph 16384 (ramOf n ws)
  watch : w'.heap[pw]? = some (.map #[] 0)
  hits : w'.heap[ph]? = some (.map #[] 0)
  new : w.heap.size ≤ r ∧ w.heap.size ≤ pb ∧ w.heap.size ≤ pw ∧ w.heap.size ≤ ph ∧ w.heap.size ≤ b
  apart : b ≠ r ∧ b ≠ pb ∧ b ≠ pw ∧ b ≠ ph
  keeps : Keeps (fun _ => False) w w'
set_option maxRecDepth 100000 in
set_option maxHeartbeats 1000000 in
theorem busNew_any (len cap : Nat) (A : Option Addr) (w : World) (ws : Nat → Int) (hR : Reads w A len cap (fun i => .int .u32 (ws i))) (hc : cap ≤ 9223372036854775807) (hr : ∀ i, i < len → 0 ≤ ws i ∧ ws i < 4294967296) :
    Calls Tryd.prog 23 #[.slice A len cap] w fun e w' => ∃ b r pb pw ph, e = .returned (.pointer (some ⟨b, 0, none⟩)) ∧ BusNew w w' ws (min len 4096) b r pb pw ph := by
  go_enter Tryd.func23, Tryd.ntmps23
  go_wp2_with fail
  refine (new_any len cap A w ws hR hc hr).mono ?_
  rintro e w2 ⟨rfl, hN⟩
  have hsz := hN.size
  have hap := hN.ram.apart
  go_wp2_with fail
  go_ret
  refine ⟨w2.heap.size, w.heap.size + 3, w.heap.size, w.heap.size + 1, w.heap.size + 2, rfl, ?_⟩
  have ka := (Keeps.refl (fun _ => False) w2).alloc (.cells #[.pointer (some ⟨w.heap.size + 3, 0, none⟩), .slice none 0 0, .int .u32 0, .slice none 0 0] 95)
  exact ⟨⟨blk_alloc_new _ _, World.ownsRow_nil _ _ _ _, World.ownsRow_nil _ _ _ _, by omega, by simp [Value.ownBlock], by simp [Value.ownBlock], .inl rfl⟩, hN.ram.keep ka (fun h => h) (fun h => h), ka.map hN.watch (fun h => h), ka.map hN.hits (fun h => h), by omega, by omega, hN.keeps.trans ka (fun _ _ h => h)⟩
end Go.Proofs.YtlbdkcnbgdmpaaaDoor
