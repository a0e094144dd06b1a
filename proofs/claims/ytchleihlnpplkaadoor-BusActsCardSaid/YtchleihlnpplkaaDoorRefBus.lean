/- The walks of the reference's NewBus, deviceError, Byte. -/
import Derived.Test.YtchleihlnpplkaaDoorRefNew
import Derived.Test.YtchleihlnpplkaaDoorBusView
namespace Go.Proofs.YtchleihlnpplkaaDoor
open Go.RowKit Go.Deep
set_option linter.unusedVariables false

/-- the reference's bus as it lies -/
structure RBusAt (w : World) (b q : Nat) (l : List UInt8) (lamp : Int) (tv : Value) (tn : Nat) (tb : List Value) : Prop where
  box : w.heap[b]? = some (.cells #[.pointer (some ⟨q, 0, none⟩), .string ⟨l.toArray⟩, .int .u32 lamp, tv] 89 (0, 0))
  tr : w.ownsRow 0 83 4 tv tn tb
  rng : 0 ≤ lamp ∧ lamp < 4294967296
  tb : tv.ownBlock ≠ some b
theorem RBusAt.keep {w w' : World} {b q : Nat} {l : List UInt8} {lamp : Int} {tv : Value} {tn : Nat} {tb : List Value} {S : Nat → Prop} (B : RBusAt w b q l lamp tv tn tb) (k : Keeps S w w') (h1 : ¬ S b) (h3 : ∀ g, tv.ownBlock = some g → ¬ S g) : RBusAt w' b q l lamp tv tn tb where
  box := (k.block b (Array.getElem?_eq_some_iff.1 B.box).1 h1).trans B.box
  tr := owns_keep B.tr k h3
  rng := B.rng
  tb := B.tb

theorem rbusNew_any (len cap : Nat) (A : Option Addr) (w : World) (ws : Nat → Int) (hR : Reads w A len cap (fun i => .int .u32 (ws i))) (hc : cap ≤ 9223372036854775807) (hr : ∀ i, i < len → 0 ≤ ws i ∧ ws i < 4294967296) :
    Calls Tryd.prog 22 #[.slice A len cap] w fun e w' => ∃ b q wb tb hb, e = .returned (.pointer (some ⟨b, 0, none⟩)) ∧ RBusAt w' b q [] 0 (.slice none 0 0) 0 [] ∧
      RefAt w' q wb tb hb (ramOf (min len 4096) ws) (fun _ => false) (fun _ => false) ∧ (w.heap.size ≤ q ∧ w.heap.size ≤ wb ∧ w.heap.size ≤ tb ∧ w.heap.size ≤ hb ∧ w.heap.size ≤ b) ∧ (b ≠ q ∧ b ≠ wb ∧ b ≠ tb ∧ b ≠ hb) ∧ Keeps (fun _ => False) w w' := by
  go_enter Tryd.func22, Tryd.ntmps22
  go_wp2_with fail
  refine (refNew_any len cap A w ws hR hc hr).mono ?_
  rintro e w2 ⟨q, wb, tb, hb, rfl, hN, hl, hk⟩
  have l1 := (Array.getElem?_eq_some_iff.1 hN.raw.box).1
  have l2 := hN.raw.words.lt
  have l3 := hN.raw.watch.lt
  have l4 := hN.raw.hit.lt
  have hs := hk.size
  go_wp2_with fail
  go_ret
  have ka := (Keeps.refl (fun _ => False) w2).alloc (.cells #[.pointer (some ⟨q, 0, none⟩), .string ⟨#[]⟩, .int .u32 0, .slice none 0 0] 89)
  exact ⟨w2.heap.size, q, wb, tb, hb, rfl, ⟨blk_alloc_new _ _, World.ownsRow_nil _ _ _ _, by omega, by simp [Value.ownBlock]⟩, hN.keep ka ⟨fun h => h, fun h => h, fun h => h, fun h => h⟩, by omega, by omega, hk.trans ka (fun _ _ h => h)⟩

theorem devC_rightC (a n : Int) (h : ¬ a < 16384) : devC a n = if rightC a n ≠ 10 then rightC a n else if n = 4 ∧ 65536 ≤ a ∧ a ≤ 65548 then 0 else 10 := by
  unfold devC rightC
  by_cases h1 : n ≠ 1 ∧ n ≠ 2 ∧ n ≠ 4
  · simp [h1]
  · rw [if_neg h1, if_neg h1]
    by_cases h2 : a % n ≠ 0
    · rw [if_pos h2, if_pos h2]; rfl
    · rw [if_neg h2, if_neg h2]
      have h4 : (if 16384 ≤ a then 10 else 0) = 10 := if_pos (by omega)
      rw [h4]
      by_cases h3 : n ≠ 4 ∨ a < 65536 ∨ 65548 < a
      · rw [if_pos h3, if_neg (by simp), if_neg (by omega)]
      · rw [if_neg h3, if_neg (by simp), if_pos (by omega)]
set_option maxHeartbeats 400000 in
theorem rdev_any (a n : Int) (w : World) (ha : 0 ≤ a ∧ a < 4294967296) (hn : (Lit.int .i64 n).wf = true) (hlt : ¬ a < 16384) :
    Calls Tryd.prog 46 #[.int .u32 a, .int .i64 n] w fun e w' => e = .returned (.int .i64 (devC a n)) ∧ w = w' := by
  have HD := Lib.hid (devC_rightC a n hlt)
  by_cases hc : rightC a n = 10
  · have hn4 : n = 1 ∨ n = 2 ∨ n = 4 := by unfold rightC at hc; split at hc <;> omega
    have HC := Lib.hid hc
    clear hc
    by_cases t1 : a < 65536 <;> by_cases t2 : 65548 < a
    all_goals
      rcases hn4 with rfl | rfl | rfl
      all_goals
        go_enter Tryd.func46, Tryd.ntmps46
        go_wp2_with fail
        refine (reach_any a _ _ ha hn).mono ?_
        rintro e w' ⟨rfl, rfl⟩
        rw [HC.out]
        go_wp2_with fail
        all_goals
          go_ret
          refine ⟨ret_i ?_, rfl⟩
          rw [HD.out, HC.out, if_neg (by simp)]
          split <;> first | rfl | (exfalso; simp at *; done) | (exfalso; simp at *; omega)
  · have hc' : ((rightC a n : Int) != 10) = true := by rw [bne_iff_ne]; omega
    have HC := Lib.hid hc
    have HC' := Lib.hid hc'
    clear hc hc'
    go_enter Tryd.func46, Tryd.ntmps46
    go_wp2_with fail
    refine (reach_any a n _ ha hn).mono ?_
    rintro e w' ⟨rfl, rfl⟩
    have hc2 := HC'.out
    generalize hx : rightC a n = x at *
    have HX := Lib.hid hx
    clear hx
    go_wp2_with fail
    go_ret
    exact ⟨ret_i (by rw [HD.out, if_pos HC.out]), rfl⟩

/-- one byte as a text -/
def byteS (n : Int) : List UInt8 := [UInt8.ofNat n.toNat]
set_option maxHeartbeats 400000 in
theorem byte_any (n : Int) (w : World) (hn : 0 ≤ n ∧ n < 256) :
    Calls Tryd.prog 47 #[.int .i64 n] w fun e w' => e = .returned (.string ⟨(byteS n).toArray⟩) ∧ Keeps (fun _ => False) w w' := by
  have hcv : (convert 72 9 (.slice (some ⟨w.heap.size, 0, none⟩) 1 1)).run Tryd.prog (w.alloc (.cells #[.int .u8 n] 5)) = .ok (.string ⟨(byteS n).toArray⟩) (w.alloc (.cells #[.int .u8 n] 5)) := by
    refine run_convert_bytes_back (l := byteS n) (w.alloc (.cells #[.int .u8 n] 5)) 72 9 5 ⟨w.heap.size, 0, none⟩ 1 Tryd.underlying72 Tryd.underlying5 Tryd.underlying9 fun j hj => ?_
    have hj0 : j = 0 := by simp [byteS] at hj; omega
    subst hj0
    have h1 : ((n.toNat % 256 : Nat) : Int) = n := by omega
    rw [show (byteS n)[0] = UInt8.ofNat n.toNat from rfl, UInt8.toNat_ofNat', show n.toNat % 2 ^ 8 = n.toNat % 256 from rfl, h1]
    exact cells_new w [.int .u8 n] 5 0 _ rfl
  have HCV := Lib.hid hcv
  clear hcv
  go_enter Tryd.func47, Tryd.ntmps47
  have hcv := HCV.out
  go_wp2_with fail
  go_ret
  exact ⟨rfl, (Keeps.refl _ w).alloc _⟩
end Go.Proofs.YtchleihlnpplkaaDoor
