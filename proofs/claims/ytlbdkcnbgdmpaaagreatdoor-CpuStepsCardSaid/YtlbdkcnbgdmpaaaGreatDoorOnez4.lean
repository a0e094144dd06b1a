import Derived.Test.YtlbdkcnbgdmpaaaGreatDoorOnez2
import Derived.Test.YtlbdkcnbgdmpaaaGreatDoorOnez3
import Derived.Deep.RegionHeld3
import Derived.Deep.RegionWith
import Derived.Test.YtlbdkcnbgdmpaaaGreatDoorProg
import Derived.WalkKit
import Derived.Test.YtlbdkcnbgdmpaaaGreatDoorOnez0
import Derived.LaidEql
import Derived.Stop.Asserts
import Derived.RowKitTokens
import Derived.Test.YtlbdkcnbgdmpaaaGreatDoorOnez1

/- RefBus -/
/- The walks of the reference's NewBus, deviceError, Byte. -/
namespace Go.Proofs.YtlbdkcnbgdmpaaaGreatDoor
open Go.RowKit Go.Deep
set_option linter.unusedVariables false

/-- the reference's bus as it lies -/
structure RBusAt (w : World) (b q : Nat) (l : List UInt8) (lamp : Int) (tv : Value) (tn : Nat) (tb : List Value) : Prop where
  box : w.heap[b]? = some (.cells #[.pointer (some ⟨q, 0, none⟩), .string ⟨l.toArray⟩, .int .u32 lamp, tv] 39 (0, 0))
  tr : w.ownsRow 0 93 4 tv tn tb
  rng : 0 ≤ lamp ∧ lamp < 4294967296
  tb : tv.ownBlock ≠ some b
theorem RBusAt.keep {w w' : World} {b q : Nat} {l : List UInt8} {lamp : Int} {tv : Value} {tn : Nat} {tb : List Value} {S : Nat → Prop} (B : RBusAt w b q l lamp tv tn tb) (k : Keeps S w w') (h1 : ¬ S b) (h3 : ∀ g, tv.ownBlock = some g → ¬ S g) : RBusAt w' b q l lamp tv tn tb where
  box := (k.block b (Array.getElem?_eq_some_iff.1 B.box).1 h1).trans B.box
  tr := owns_keep B.tr k h3
  rng := B.rng
  tb := B.tb

theorem rbusNew_any (len cap : Nat) (A : Option Addr) (w : World) (ws : Nat → Int) (hR : Reads w A len cap (fun i => .int .u32 (ws i))) (hc : cap ≤ 9223372036854775807) (hr : ∀ i, i < len → 0 ≤ ws i ∧ ws i < 4294967296) :
    Calls Tryz.prog 7 #[.slice A len cap] w fun e w' => ∃ b q wb tb hb, e = .returned (.pointer (some ⟨b, 0, none⟩)) ∧ RBusAt w' b q [] 0 (.slice none 0 0) 0 [] ∧
      RefAt w' q wb tb hb (ramOf (min len 4096) ws) (fun _ => false) (fun _ => false) ∧ (w.heap.size ≤ q ∧ w.heap.size ≤ wb ∧ w.heap.size ≤ tb ∧ w.heap.size ≤ hb ∧ w.heap.size ≤ b) ∧ (b ≠ q ∧ b ≠ wb ∧ b ≠ tb ∧ b ≠ hb) ∧ Keeps (fun _ => False) w w' := by
  go_enter Tryz.func7, Tryz.ntmps7
  go_wp2_with fail
  refine (refNew_any len cap A w ws hR hc hr).mono ?_
  rintro e w2 ⟨q, wb, tb, hb, rfl, hN, hl, hk⟩
  have l1 := (Array.getElem?_eq_some_iff.1 hN.raw.box).1
  have l2 := hN.raw.words.lt
  have l3 := hN.raw.watch.lt
  have l4 := hN.raw.hit.lt
  have hs := hk.size
  go_wp2_with fail
  go_ret
  have ka := (Keeps.refl (fun _ => False) w2).alloc (.cells #[.pointer (some ⟨q, 0, none⟩), .string ⟨#[]⟩, .int .u32 0, .slice none 0 0] 39)
  exact ⟨w2.heap.size, q, wb, tb, hb, rfl, ⟨blk_alloc_new _ _, World.ownsRow_nil _ _ _ _, by omega, by simp [Value.ownBlock]⟩, hN.keep ka ⟨fun h => h, fun h => h, fun h => h, fun h => h⟩, by omega, by omega, hk.trans ka (fun _ _ h => h)⟩

theorem devC_rightC (a n : Int) (h : ¬ a < 16384) : devC a n = if rightC a n ≠ 10 then rightC a n else if n = 4 ∧ 65536 ≤ a ∧ a ≤ 65548 then 0 else 10 := by
  unfold devC rightC
  by_cases h1 : n ≠ 1 ∧ n ≠ 2 ∧ n ≠ 4
  · simp [h1]
  · rw [if_neg h1, if_neg h1]
    by_cases h2 : a % n ≠ 0
    · rw [if_pos h2, if_pos h2]; rfl
    · rw [if_neg h2, if_neg h2]
      have h4 : (if 16384 ≤ a then 10 else 0) = 10 := if_pos (by omega)
      rw [h4]
      by_cases h3 : n ≠ 4 ∨ a < 65536 ∨ 65548 < a
      · rw [if_pos h3, if_neg (by simp), if_neg (by omega)]
      · rw [if_neg h3, if_neg (by simp), if_pos (by omega)]
set_option maxHeartbeats 400000 in
theorem rdev_any (a n : Int) (w : World) (ha : 0 ≤ a ∧ a < 4294967296) (hn : (Lit.int .i64 n).wf = true) (hlt : ¬ a < 16384) :
    Calls Tryz.prog 103 #[.int .u32 a, .int .i64 n] w fun e w' => e = .returned (.int .i64 (devC a n)) ∧ w = w' := by
  have HD := Lib.hid (devC_rightC a n hlt)
  by_cases hc : rightC a n = 10
  · have hn4 : n = 1 ∨ n = 2 ∨ n = 4 := by unfold rightC at hc; split at hc <;> omega
    have HC := Lib.hid hc
    clear hc
    by_cases t1 : a < 65536 <;> by_cases t2 : 65548 < a
    all_goals
      rcases hn4 with rfl | rfl | rfl
      all_goals
        go_enter Tryz.func103, Tryz.ntmps103
        go_wp2_with fail
        refine (reach_any a _ _ ha hn).mono ?_
        rintro e w' ⟨rfl, rfl⟩
        rw [HC.out]
        go_wp2_with fail
        all_goals
          go_ret
          refine ⟨ret_i ?_, rfl⟩
          rw [HD.out, HC.out, if_neg (by simp)]
          split <;> first | rfl | (exfalso; simp at *; done) | (exfalso; simp at *; omega)
  · have hc' : ((rightC a n : Int) != 10) = true := by rw [bne_iff_ne]; omega
    have HC := Lib.hid hc
    have HC' := Lib.hid hc'
    clear hc hc'
    go_enter Tryz.func103, Tryz.ntmps103
    go_wp2_with fail
    refine (reach_any a n _ ha hn).mono ?_
    rintro e w' ⟨rfl, rfl⟩
    have hc2 := HC'.out
    generalize hx : rightC a n = x at *
    have HX := Lib.hid hx
    clear hx
    go_wp2_with fail
    go_ret
    exact ⟨ret_i (by rw [HD.out, if_pos HC.out]), rfl⟩

/-- one byte as a text -/
def byteS (n : Int) : List UInt8 := [UInt8.ofNat n.toNat]
set_option maxHeartbeats 400000 in
theorem byte_any (n : Int) (w : World) (hn : 0 ≤ n ∧ n < 256) :
    Calls Tryz.prog 104 #[.int .i64 n] w fun e w' => e = .returned (.string ⟨(byteS n).toArray⟩) ∧ Keeps (fun _ => False) w w' := by
  have hcv : (convert 50 9 (.slice (some ⟨w.heap.size, 0, none⟩) 1 1)).run Tryz.prog (w.alloc (.cells #[.int .u8 n] 5)) = .ok (.string ⟨(byteS n).toArray⟩) (w.alloc (.cells #[.int .u8 n] 5)) := by
    refine run_convert_bytes_back (l := byteS n) (w.alloc (.cells #[.int .u8 n] 5)) 50 9 5 ⟨w.heap.size, 0, none⟩ 1 Tryz.underlying50 Tryz.underlying5 Tryz.underlying9 fun j hj => ?_
    have hj0 : j = 0 := by simp [byteS] at hj; omega
    subst hj0
    have h1 : ((n.toNat % 256 : Nat) : Int) = n := by omega
    rw [show (byteS n)[0] = UInt8.ofNat n.toNat from rfl, UInt8.toNat_ofNat', show n.toNat % 2 ^ 8 = n.toNat % 256 from rfl, h1]
    exact cells_new w [.int .u8 n] 5 0 _ rfl
  have HCV := Lib.hid hcv
  clear hcv
  go_enter Tryz.func104, Tryz.ntmps104
  have hcv := HCV.out
  go_wp2_with fail
  go_ret
  exact ⟨rfl, (Keeps.refl _ w).alloc _⟩
end Go.Proofs.YtlbdkcnbgdmpaaaGreatDoor

/- RefBusDo -/
/- The walks of the reference's (*Bus).Load and Store. -/
namespace Go.Proofs.YtlbdkcnbgdmpaaaGreatDoor
open Go.RowKit Go.Deep
set_option linter.unusedVariables false

theorem rng_i64 {a : Int} (h : (Lit.int .i64 a).wf = true) : -9223372036854775808 ≤ a ∧ a ≤ 9223372036854775807 := by
  simp [Lit.wf, IntKind.min, IntKind.max, IntKind.signed, IntKind.bits] at h; omega
theorem rtold_end {w w1 : World} {b q : Nat} {l : List UInt8} {lamp : Int} {tv tv' : Value} {tn : Nat} {tb xs : List Value} (B : RBusAt w b q l lamp tv tn tb)
    (hk : Keeps (fun k => tv.ownBlock = some k) w w1) (hown : w1.ownsRow 0 93 4 tv' (tn + 1) xs) (hmv : Moved w tv tv') :
    RBusAt (w1.setCell ⟨b, 3, none⟩ tv') b q l lamp tv' (tn + 1) xs ∧ Moved w tv tv' ∧ Keeps (fun k => k = b ∨ tv.ownBlock = some k) w (w1.setCell ⟨b, 3, none⟩ tv') := by
  have hbl : b < w.heap.size := (Array.getElem?_eq_some_iff.1 B.box).1
  have hb1 := (hk.block b hbl B.tb).trans B.box
  have hst := Keeps.one w1 b 3 tv'
  have htb := hmv.ne hbl B.tb
  have hkk : Keeps (fun k => k = b ∨ tv.ownBlock = some k) w (w1.setCell ⟨b, 3, none⟩ tv') := Keeps.trans (hk.mono (fun k _ h => Or.inr h)) hst (fun k _ h => Or.inl h)
  exact ⟨⟨set_block hb1 3 tv', owns_keep hown hst (fun g hg e => htb (e ▸ hg)), B.rng, htb⟩, hmv, hkk⟩
theorem RBusAt.lamp {w : World} {b q : Nat} {l : List UInt8} {lamp : Int} {tv : Value} {tn : Nat} {tb : List Value} (B : RBusAt w b q l lamp tv tn tb) (v : Int) (hv : 0 ≤ v ∧ v < 4294967296) :
    RBusAt (w.setCell ⟨b, 2, none⟩ (.int .u32 v)) b q l v tv tn tb :=
  ⟨set_block B.box 2 _, owns_keep B.tr (Keeps.one w b 2 _) (fun g hg e => B.tb (e ▸ hg)), hv, B.tb⟩
theorem RBusAt.outs {w : World} {b q : Nat} {l l' : List UInt8} {lamp : Int} {tv : Value} {tn : Nat} {tb : List Value} (B : RBusAt w b q l lamp tv tn tb) :
    RBusAt (w.setCell ⟨b, 1, none⟩ (.string ⟨l'.toArray⟩)) b q l' lamp tv tn tb :=
  ⟨set_block B.box 1 _, owns_keep B.tr (Keeps.one w b 1 _) (fun g hg e => B.tb (e ▸ hg)), B.rng, B.tb⟩

set_option maxRecDepth 100000 in
set_option maxHeartbeats 1000000 in
theorem rbload_ok (b q wb tb hb : Nat) (m : Nat → Int) (wt ht : Nat → Bool) (a n c : Int) (s : Bool) (w : World) (hb0 : w.cell? ⟨b, 0, none⟩ = some (.pointer (some ⟨q, 0, none⟩))) (R : RefAt w q wb tb hb m wt ht) (h0 : 0 ≤ a ∧ a < 4294967296) (h : rightC a n = 0) :
    Calls Tryz.prog 96 #[.pointer (some ⟨b, 0, none⟩), .int .u32 a, .int .i64 n, .bool s, .int .i64 c] w fun e w' => e = .returned (.tuple #[.int .u32 (Wd.wide (be m a.toNat n.toNat) (8 * n) s), .int .i64 0]) ∧ w = w' := by
  have hlt := (rightC_ok h).2.2
  have hn := (rightC_ok h).1
  obtain ⟨a', rfl⟩ := Int.eq_ofNat_of_zero_le h0.1
  obtain ⟨n', rfl⟩ := Int.eq_ofNat_of_zero_le (show 0 ≤ n by omega)
  clear hn
  go_enter Tryz.func96, Tryz.ntmps96
  go_wp2_with fail
  refine (rload_ok q wb tb hb m wt ht a' n' s _ R h).mono ?_
  rintro e w' ⟨rfl, rfl⟩
  go_wp2_with fail
  go_ret2
  exact ⟨rfl, rfl⟩
set_option maxRecDepth 100000 in
set_option maxHeartbeats 1000000 in
theorem rbload_bad (b q : Nat) (a n c : Int) (s : Bool) (w : World) (hb0 : w.cell? ⟨b, 0, none⟩ = some (.pointer (some ⟨q, 0, none⟩))) (h0 : 0 ≤ a ∧ a < 4294967296) (hn : (Lit.int .i64 n).wf = true) (hlt : a < 16384) (h : rightC a n ≠ 0) :
    Calls Tryz.prog 96 #[.pointer (some ⟨b, 0, none⟩), .int .u32 a, .int .i64 n, .bool s, .int .i64 c] w fun e w' => e = .returned (.tuple #[.int .u32 0, .int .i64 (rightC a n)]) ∧ w = w' := by
  go_enter Tryz.func96, Tryz.ntmps96
  go_wp2_with fail
  refine (rload_bad _ a n s _ h0 hn h).mono ?_
  rintro e w' ⟨rfl, rfl⟩
  go_wp2_with fail
  go_ret2
  exact ⟨rfl, rfl⟩
theorem devC_le (a n : Int) : devC a n < 11 := by unfold devC; split <;> (try split) <;> (try split) <;> omega
set_option maxHeartbeats 1000000 in
theorem rbload_dbad (b : Nat) (a n c : Int) (s : Bool) (w : World) (h0 : 0 ≤ a ∧ a < 4294967296) (hn : (Lit.int .i64 n).wf = true) (hlt : ¬ a < 16384) (h : devC a n ≠ 0) :
    Calls Tryz.prog 96 #[.pointer (some ⟨b, 0, none⟩), .int .u32 a, .int .i64 n, .bool s, .int .i64 c] w fun e w' => e = .returned (.tuple #[.int .u32 0, .int .i64 (devC a n)]) ∧ w = w' := by
  have h1 : 0 < devC a n := by omega
  go_enter Tryz.func96, Tryz.ntmps96
  go_wp2_with fail
  refine (rdev_any a n _ h0 hn (by omega)).mono ?_
  rintro e w' ⟨rfl, rfl⟩
  generalize hg : devC a n = x at *
  have HG := Lib.hid hg
  clear hg
  go_wp2_with fail
  go_ret2
  exact ⟨by rw [HG.out]; rfl, rfl⟩

set_option maxRecDepth 100000 in
set_option maxHeartbeats 1000000 in
theorem rbload_dev (b q : Nat) (l : List UInt8) (lamp : Int) (tv : Value) (tn : Nat) (tb : List Value) (a n c : Int) (s : Bool) (w : World) (B : RBusAt w b q l lamp tv tn tb) (hn : tn < 1000000) (h0 : 0 ≤ a ∧ a < 4294967296) (hc : (Lit.int .i64 c).wf = true) (h : devC a n = 0) :
    Calls Tryz.prog 96 #[.pointer (some ⟨b, 0, none⟩), .int .u32 a, .int .i64 n, .bool s, .int .i64 c] w fun e w' => e = .returned (.tuple #[.int .u32 (devV a c lamp), .int .i64 0]) ∧
      ∃ tv', RBusAt w' b q l lamp tv' (tn + 1) (tb ++ accC c false a (devV a c lamp)) ∧ Moved w tv tv' ∧ Keeps (fun k => k = b ∨ tv.ownBlock = some k) w w' := by
  obtain ⟨rfl, h1, h2, h3⟩ := devC_ok h
  have hlt : ¬ a < 16384 := by omega
  obtain ⟨i0, hi, hz0, hz1, hz2⟩ := info_parts Tryz.info_acc
  have hl : w.cell? ⟨b, 2, none⟩ = some (.int .u32 lamp) := by simp [World.cell?, B.box]
  have hc3 : w.cell? ⟨b, 3, none⟩ = some tv := by simp [World.cell?, B.box]
  have hcr := rng_i64 hc
  have hmx : tn + 1 ≤ maxLen := by unfold maxLen; omega
  have H := Lib.hid h
  clear h
  have hcn : ∀ v : Int, ∀ j u, (accC c false a v)[j]? = some u → (w.alloc (.cells (accC c false a v).toArray 93)).cell? ((⟨w.heap.size, 0, none⟩ : Addr).add j) = some u := fun v j u h => cells_new w _ _ j u h
  have HCN := Lib.hid hcn
  clear hcn
  have t : a = 65540 ∨ a = 65544 ∨ (a ≠ 65540 ∧ a ≠ 65544) := by omega
  rcases t with t | t | ⟨t, t'⟩
  · have hv : devV a c lamp = c % 4294967296 := by rw [devV, if_pos t]
    subst t
    rw [hv]
    have hcl2 := cell_alloc hc3 (.cells #[.int .i64 c, .bool false, .int .u32 65540, .int .u32 (c % 4294967296)] 93)
    clear hv
    go_enter Tryz.func96, Tryz.ntmps96
    go_wp2_with fail
    refine (rdev_any _ _ _ (by omega) (by decide) (by omega)).mono ?_
    rintro e w' ⟨rfl, rfl⟩
    rw [H.out]
    go_wp2_with fail
    refine (word_any c _ hcr).mono ?_
    rintro e w' ⟨rfl, rfl⟩
    go_wp2_with (at_builtin; refine wpList_append_mine rfl (.tmp 48) (.tmp 53) 37 rfl 0 93 i0 _ 4 24 Tryz.underlying37 hi hz0 hz1 hz2 rfl (by decide) tv tn tb rfl (B.tr.alloc _) ⟨w.heap.size, 0, none⟩ 1 1 (accC c false 65540 (c % 4294967296)) rfl rfl (HCN.out _) (by simp [accC, Value.oneCell']) hmx (by omega) (Nat.zero_le _) ?_; intro tv' w1 hown hgr hmv; obtain ⟨A', cap', rfl⟩ := owns_slice hown; have hk2 : Keeps (fun k => tv.ownBlock = some k) w w1 := ((Keeps.refl _ w).alloc _).grown hgr (fun k hk _ => hk); have hb2 := (hk2.block b (Array.getElem?_eq_some_iff.1 B.box).1 (fun h => B.tb h)).trans B.box; have hc2 : w1.cell? ⟨b, 3, none⟩ = some tv := (by simp [World.cell?, hb2]); have hf2 := frozen_of_block hb2 3)
    go_ret2
    exact ⟨rfl, _, rtold_end B hk2 hown (hmv.of_le (Keeps.size ((Keeps.refl (fun _ => False) w).alloc _)))⟩
  · have hv : devV a c lamp = lamp := by rw [devV, if_neg (by omega), if_pos t]
    subst t
    rw [hv]
    have hcl2 := cell_alloc hc3 (.cells #[.int .i64 c, .bool false, .int .u32 65544, .int .u32 lamp] 93)
    clear hv
    go_enter Tryz.func96, Tryz.ntmps96
    go_wp2_with fail
    refine (rdev_any _ _ _ (by omega) (by decide) (by omega)).mono ?_
    rintro e w' ⟨rfl, rfl⟩
    rw [H.out]
    go_wp2_with (at_builtin; refine wpList_append_mine rfl (.tmp 48) (.tmp 53) 37 rfl 0 93 i0 _ 4 24 Tryz.underlying37 hi hz0 hz1 hz2 rfl (by decide) tv tn tb rfl (B.tr.alloc _) ⟨w.heap.size, 0, none⟩ 1 1 (accC c false 65544 lamp) rfl rfl (HCN.out _) (by simp [accC, Value.oneCell']) hmx (by omega) (Nat.zero_le _) ?_; intro tv' w1 hown hgr hmv; obtain ⟨A', cap', rfl⟩ := owns_slice hown; have hk2 : Keeps (fun k => tv.ownBlock = some k) w w1 := ((Keeps.refl _ w).alloc _).grown hgr (fun k hk _ => hk); have hb2 := (hk2.block b (Array.getElem?_eq_some_iff.1 B.box).1 (fun h => B.tb h)).trans B.box; have hc2 : w1.cell? ⟨b, 3, none⟩ = some tv := (by simp [World.cell?, hb2]); have hf2 := frozen_of_block hb2 3)
    go_ret2
    exact ⟨rfl, _, rtold_end B hk2 hown (hmv.of_le (Keeps.size ((Keeps.refl (fun _ => False) w).alloc _)))⟩
  · have hv : devV a c lamp = 0 := by rw [devV, if_neg t, if_neg t']
    rw [hv]
    have t1 : (a == 65540) = false := by simpa using t
    have t2 : (a == 65544) = false := by simpa using t'
    have hcl2 := cell_alloc hc3 (.cells #[.int .i64 c, .bool false, .int .u32 a, .int .u32 0] 93)
    clear hv t t'
    go_enter Tryz.func96, Tryz.ntmps96
    go_wp2_with fail
    refine (rdev_any _ _ _ (by omega) (by decide) (by omega)).mono ?_
    rintro e w' ⟨rfl, rfl⟩
    rw [H.out]
    go_wp2_with (at_builtin; refine wpList_append_mine rfl (.tmp 48) (.tmp 53) 37 rfl 0 93 i0 _ 4 24 Tryz.underlying37 hi hz0 hz1 hz2 rfl (by decide) tv tn tb rfl (B.tr.alloc _) ⟨w.heap.size, 0, none⟩ 1 1 (accC c false a 0) rfl rfl (HCN.out _) (by simp [accC, Value.oneCell']) hmx (by omega) (Nat.zero_le _) ?_; intro tv' w1 hown hgr hmv; obtain ⟨A', cap', rfl⟩ := owns_slice hown; have hk2 : Keeps (fun k => tv.ownBlock = some k) w w1 := ((Keeps.refl _ w).alloc _).grown hgr (fun k hk _ => hk); have hb2 := (hk2.block b (Array.getElem?_eq_some_iff.1 B.box).1 (fun h => B.tb h)).trans B.box; have hc2 : w1.cell? ⟨b, 3, none⟩ = some tv := (by simp [World.cell?, hb2]); have hf2 := frozen_of_block hb2 3)
    go_ret2
    exact ⟨rfl, _, rtold_end B hk2 hown (hmv.of_le (Keeps.size ((Keeps.refl (fun _ => False) w).alloc _)))⟩

set_option maxRecDepth 100000 in
set_option maxHeartbeats 1000000 in
theorem rbstore_ok (b q wb tb hb : Nat) (m : Nat → Int) (wt ht : Nat → Bool) (a n v c : Int) (w : World) (hb0 : w.cell? ⟨b, 0, none⟩ = some (.pointer (some ⟨q, 0, none⟩))) (R : RefAt w q wb tb hb m wt ht) (h0 : 0 ≤ a ∧ a < 4294967296) (hv : 0 ≤ v ∧ v < 4294967296) (h : rightC a n = 0) :
    Calls Tryz.prog 97 #[.pointer (some ⟨b, 0, none⟩), .int .u32 a, .int .i64 n, .int .u32 v, .int .i64 c] w fun e w' => e = .returned (.int .i64 0) ∧
      RefAt w' q wb tb hb (stTo m a.toNat n.toNat v n.toNat) wt (fun p => ht p || (decide (p = a.toNat / 256) && wt (a.toNat / 256))) ∧ Keeps (fun k => k = wb ∨ k = hb) w w' := by
  have hlt := (rightC_ok h).2.2
  have hn := (rightC_ok h).1
  obtain ⟨a', rfl⟩ := Int.eq_ofNat_of_zero_le h0.1
  obtain ⟨n', rfl⟩ := Int.eq_ofNat_of_zero_le (show 0 ≤ n by omega)
  clear hn
  go_enter Tryz.func97, Tryz.ntmps97
  go_wp2_with fail
  refine (rstore_ok q wb tb hb m wt ht a' n' v _ R hv h).mono ?_
  rintro e w' ⟨rfl, hT⟩
  go_wp2_with fail
  go_ret
  exact ⟨rfl, hT⟩
set_option maxHeartbeats 1000000 in
theorem rbstore_bad (b q : Nat) (a n v c : Int) (w : World) (hb0 : w.cell? ⟨b, 0, none⟩ = some (.pointer (some ⟨q, 0, none⟩))) (h0 : 0 ≤ a ∧ a < 4294967296) (hn : (Lit.int .i64 n).wf = true) (hlt : a < 16384) (h : rightC a n ≠ 0) :
    Calls Tryz.prog 97 #[.pointer (some ⟨b, 0, none⟩), .int .u32 a, .int .i64 n, .int .u32 v, .int .i64 c] w fun e w' => e = .returned (.int .i64 (rightC a n)) ∧ w = w' := by
  go_enter Tryz.func97, Tryz.ntmps97
  go_wp2_with fail
  refine (rstore_bad _ a n v _ h0 hn h).mono ?_
  rintro e w' ⟨rfl, rfl⟩
  go_wp2_with fail
  go_ret
  exact ⟨rfl, rfl⟩
set_option maxHeartbeats 1000000 in
theorem rbstore_dbad (b : Nat) (a n v c : Int) (w : World) (h0 : 0 ≤ a ∧ a < 4294967296) (hn : (Lit.int .i64 n).wf = true) (hlt : ¬ a < 16384) (h : devC a n ≠ 0) :
    Calls Tryz.prog 97 #[.pointer (some ⟨b, 0, none⟩), .int .u32 a, .int .i64 n, .int .u32 v, .int .i64 c] w fun e w' => e = .returned (.int .i64 (devC a n)) ∧ w = w' := by
  have h1 : 0 < devC a n := by omega
  go_enter Tryz.func97, Tryz.ntmps97
  go_wp2_with fail
  refine (rdev_any a n _ h0 hn (by omega)).mono ?_
  rintro e w' ⟨rfl, rfl⟩
  generalize hg : devC a n = x at *
  have HG := Lib.hid hg
  clear hg
  go_wp2_with fail
  go_ret
  exact ⟨by rw [HG.out]; rfl, rfl⟩

/-- what a store to a device leaves with the reference -/
def outL (a v : Int) (l : List UInt8) : List UInt8 := if a = 65536 then l ++ byteS (v % 256) else l
def RStored (w w' : World) (b q : Nat) (l : List UInt8) (lamp : Int) (tv : Value) (tn : Nat) (tb : List Value) : Prop :=
  ∃ tv', RBusAt w' b q l lamp tv' tn tb ∧ Moved w tv tv' ∧ Keeps (fun k => k = b ∨ tv.ownBlock = some k) w w'
theorem part8 (v : Int) (w : World) (hv : 0 ≤ v ∧ v < 4294967296) :
    Calls Tryz.prog 20 #[.int .u32 v, .int .i64 0, .int .i64 8] w fun e w' => e = .returned (.int .i64 (v % 256)) ∧ w = w' :=
  (part_any v 0 8 w hv (by omega) (by omega)).mono fun e w' ⟨he, hw⟩ => ⟨he.trans (ret_i (by show v / 1 % 256 = v % 256; omega)), hw⟩
theorem str_add (l m : List UInt8) : (⟨l.toArray⟩ : ByteArray) ++ ⟨m.toArray⟩ = ⟨(l ++ m).toArray⟩ := by
  apply ByteArray.ext
  simp

theorem Keeps.frozen {S : Nat → Prop} {w w' : World} (h : Keeps S w w') {b : Nat} (o : Nat) (hb : b < w.heap.size) (hs : ¬ S b) (hf : w.frozen? ⟨b, o, none⟩ = false) : w'.frozen? ⟨b, o, none⟩ = false := by
  have := h.block b hb hs
  unfold World.frozen? at hf ⊢
  rw [this]
  exact hf
set_option maxRecDepth 100000 in
set_option maxHeartbeats 2000000 in
theorem rbstore_con (b q : Nat) (l : List UInt8) (lamp : Int) (tv : Value) (tn : Nat) (tb : List Value) (v c : Int) (w : World) (B : RBusAt w b q l lamp tv tn tb) (hl : l.length < 1000000) (hn : tn < 1000000) (hv : 0 ≤ v ∧ v < 4294967296) :
    Calls Tryz.prog 97 #[.pointer (some ⟨b, 0, none⟩), .int .u32 65536, .int .i64 4, .int .u32 v, .int .i64 c] w fun e w' => e = .returned (.int .i64 0) ∧
      RStored w w' b q (l ++ byteS (v % 256)) lamp tv (tn + 1) (tb ++ accC c true 65536 v) := by
  obtain ⟨i0, hi, hz0, hz1, hz2⟩ := info_parts Tryz.info_acc
  have h1c : w.cell? ⟨b, 1, none⟩ = some (.string ⟨l.toArray⟩) := by simp [World.cell?, B.box]
  have hmx : tn + 1 ≤ maxLen := by unfold maxLen; omega
  have H : Hid (devC 65536 4 = 0) := Lib.hid (by decide)
  have hbl : b < w.heap.size := (Array.getElem?_eq_some_iff.1 B.box).1
  have hf1 := frozen_of_block B.box 1
  have hlb : (byteS (v % 256)).length = 1 := rfl
  have hl1 : ¬ (9223372036854775807 < l.length + (byteS (v % 256)).length) := by omega
  have hl2 : l.length + (byteS (v % 256)).length ≤ 9223372036854775807 := by omega
  clear hlb
  go_enter Tryz.func97, Tryz.ntmps97
  go_wp2_with fail
  refine (rdev_any _ _ _ (by omega) (by decide) (by omega)).mono ?_
  rintro e w' ⟨rfl, rfl⟩
  rw [H.out]
  go_wp2_with fail
  go_region_with (first
      | (go_at_call 20; refine (part8 v _ hv).mono ?_; rintro e w' ⟨rfl, rfl⟩)
      | (go_at_call 104; refine (byte_any (v % 256) _ (by omega)).mono ?_; rintro e w2 ⟨rfl, hk2⟩; have hk3 : Keeps (fun _ => False) w w2 := (by first | exact Keeps.trans ((Keeps.refl _ w).drew) hk2 (fun _ _ h => h) | exact hk2); have hc2 := hk3.cell' h1c (fun f => f); have hf2 := hk3.frozen 1 hbl (fun f => f) hf1))
  all_goals
    have B2 := (B.keep hk3 (fun h => h) (fun _ _ h => h)).outs (l' := l ++ byteS (v % 256))
    have hkk : Keeps (fun k => k = b) w (w2.setCell ⟨b, 1, none⟩ (.string ⟨(l ++ byteS (v % 256)).toArray⟩)) := Keeps.trans (hk3.mono (fun _ _ h => h.elim)) (Keeps.one w2 b 1 _) (fun _ _ h => h)
    rw [str_add]
    clear hc2 hf2 hk2 hk3 hf1 h1c
    generalize w2.setCell ⟨b, 1, none⟩ (.string ⟨(l ++ byteS (v % 256)).toArray⟩) = w3 at *
    have hc3 : w3.cell? ⟨b, 3, none⟩ = some tv := by simp [World.cell?, B2.box]
    have HCN := Lib.hid (fun j u (h : (accC c true 65536 v)[j]? = some u) => cells_new w3 (accC c true 65536 v) 93 j u h)
    have hcl2 := cell_alloc hc3 (.cells #[.int .i64 c, .bool true, .int .u32 65536, .int .u32 v] 93)
    go_wp2_with (at_builtin; refine wpList_append_mine rfl (.tmp 53) (.tmp 58) 37 rfl 0 93 i0 _ 4 24 Tryz.underlying37 hi hz0 hz1 hz2 rfl (by decide) tv tn tb rfl (B2.tr.alloc _) ⟨w3.heap.size, 0, none⟩ 1 1 (accC c true 65536 v) rfl rfl HCN.out (by simp [accC, Value.oneCell']) hmx (by omega) (Nat.zero_le _) ?_; intro tv' w1 hown hgr hmv; obtain ⟨A', cap', rfl⟩ := owns_slice hown; have hk4 : Keeps (fun k => tv.ownBlock = some k) w3 w1 := ((Keeps.refl _ w3).alloc _).grown hgr (fun k hk _ => hk); have hb2 := (hk4.block b (Array.getElem?_eq_some_iff.1 B2.box).1 (fun h => B2.tb h)).trans B2.box; have hc4 : w1.cell? ⟨b, 3, none⟩ = some tv := (by simp [World.cell?, hb2]); have hf4 := frozen_of_block hb2 3)
    go_ret
    obtain ⟨B3, m3, k3⟩ := rtold_end B2 hk4 hown (hmv.of_le (Keeps.size ((Keeps.refl (fun _ => False) w3).alloc _)))
    exact ⟨rfl, _, B3, m3.of_le hkk.size, Keeps.trans (hkk.mono (fun k _ h => .inl h)) k3 (fun k _ h => h)⟩

set_option maxRecDepth 100000 in
set_option maxHeartbeats 2000000 in
theorem rbstore_lamp (b q : Nat) (l : List UInt8) (lamp : Int) (tv : Value) (tn : Nat) (tb : List Value) (v c : Int) (w : World) (B : RBusAt w b q l lamp tv tn tb) (hn : tn < 1000000) (hv : 0 ≤ v ∧ v < 4294967296) :
    Calls Tryz.prog 97 #[.pointer (some ⟨b, 0, none⟩), .int .u32 65544, .int .i64 4, .int .u32 v, .int .i64 c] w fun e w' => e = .returned (.int .i64 0) ∧
      RStored w w' b q l v tv (tn + 1) (tb ++ accC c true 65544 v) := by
  obtain ⟨i0, hi, hz0, hz1, hz2⟩ := info_parts Tryz.info_acc
  have h2c : w.cell? ⟨b, 2, none⟩ = some (.int .u32 lamp) := by simp [World.cell?, B.box]
  have h2f := frozen_of_block B.box 2
  have hmx : tn + 1 ≤ maxLen := by unfold maxLen; omega
  have H : Hid (devC 65544 4 = 0) := Lib.hid (by decide)
  have B2 := B.lamp v hv
  have hkk : Keeps (fun k => k = b) w (w.setCell ⟨b, 2, none⟩ (.int .u32 v)) := Keeps.one w b 2 _
  have hc3 : (w.setCell ⟨b, 2, none⟩ (.int .u32 v)).cell? ⟨b, 3, none⟩ = some tv := by simp [World.cell?, B2.box]
  have hsz : (w.setCell ⟨b, 2, none⟩ (.int .u32 v)).heap.size = w.heap.size := by simp [World.setCell]
  have hcn := (fun j u (h : (accC c true 65544 v)[j]? = some u) => cells_new (w.setCell ⟨b, 2, none⟩ (.int .u32 v)) (accC c true 65544 v) 93 j u h)
  rw [hsz] at hcn
  have HCN := Lib.hid hcn
  clear hcn hsz
  have hcl2 := cell_alloc hc3 (.cells #[.int .i64 c, .bool true, .int .u32 65544, .int .u32 v] 93)
  go_enter Tryz.func97, Tryz.ntmps97
  go_wp2_with fail
  refine (rdev_any _ _ _ (by omega) (by decide) (by omega)).mono ?_
  rintro e w' ⟨rfl, rfl⟩
  rw [H.out]
  go_wp2_with (at_builtin; refine wpList_append_mine rfl (.tmp 53) (.tmp 58) 37 rfl 0 93 i0 _ 4 24 Tryz.underlying37 hi hz0 hz1 hz2 rfl (by decide) tv tn tb rfl (B2.tr.alloc _) ⟨w.heap.size, 0, none⟩ 1 1 (accC c true 65544 v) rfl rfl HCN.out (by simp [accC, Value.oneCell']) hmx (by omega) (Nat.zero_le _) ?_; intro tv' w1 hown hgr hmv; obtain ⟨A', cap', rfl⟩ := owns_slice hown; have hk4 : Keeps (fun k => tv.ownBlock = some k) (w.setCell ⟨b, 2, none⟩ (.int .u32 v)) w1 := ((Keeps.refl _ (w.setCell ⟨b, 2, none⟩ (.int .u32 v))).alloc _).grown hgr (fun k hk _ => hk); have hb2 := (hk4.block b (Array.getElem?_eq_some_iff.1 B2.box).1 (fun h => B2.tb h)).trans B2.box; have hc4 : w1.cell? ⟨b, 3, none⟩ = some tv := (by simp [World.cell?, hb2]); have hf4 := frozen_of_block hb2 3)
  go_ret
  obtain ⟨B3, m3, k3⟩ := rtold_end B2 hk4 hown (hmv.of_le (Keeps.size ((Keeps.refl (fun _ => False) (w.setCell ⟨b, 2, none⟩ (.int .u32 v))).alloc _)))
  exact ⟨rfl, _, B3, m3.of_le hkk.size, Keeps.trans (hkk.mono (fun k _ h => .inl h)) k3 (fun k _ h => h)⟩

set_option maxRecDepth 100000 in
set_option maxHeartbeats 2000000 in
theorem rbstore_else (b q : Nat) (l : List UInt8) (lamp : Int) (tv : Value) (tn : Nat) (tb : List Value) (a v c : Int) (w : World) (B : RBusAt w b q l lamp tv tn tb) (hn : tn < 1000000) (ha : 0 ≤ a ∧ a < 4294967296) (hv : 0 ≤ v ∧ v < 4294967296) (h : devC a 4 = 0) (t1 : (a == 65536) = false) (t2 : (a == 65544) = false) :
    Calls Tryz.prog 97 #[.pointer (some ⟨b, 0, none⟩), .int .u32 a, .int .i64 4, .int .u32 v, .int .i64 c] w fun e w' => e = .returned (.int .i64 0) ∧
      RStored w w' b q l lamp tv (tn + 1) (tb ++ accC c true a v) := by
  obtain ⟨_, h1, h2, h3⟩ := devC_ok h
  have hlt : ¬ a < 16384 := by omega
  obtain ⟨i0, hi, hz0, hz1, hz2⟩ := info_parts Tryz.info_acc
  have hmx : tn + 1 ≤ maxLen := by unfold maxLen; omega
  have H := Lib.hid h
  clear h
  have hc3 : w.cell? ⟨b, 3, none⟩ = some tv := by simp [World.cell?, B.box]
  have HCN := Lib.hid (fun j u (h : (accC c true a v)[j]? = some u) => cells_new w (accC c true a v) 93 j u h)
  have hcl2 := cell_alloc hc3 (.cells #[.int .i64 c, .bool true, .int .u32 a, .int .u32 v] 93)
  go_enter Tryz.func97, Tryz.ntmps97
  go_wp2_with fail
  refine (rdev_any _ _ _ (by omega) (by decide) (by omega)).mono ?_
  rintro e w' ⟨rfl, rfl⟩
  rw [H.out]
  go_wp2_with (at_builtin; refine wpList_append_mine rfl (.tmp 53) (.tmp 58) 37 rfl 0 93 i0 _ 4 24 Tryz.underlying37 hi hz0 hz1 hz2 rfl (by decide) tv tn tb rfl (B.tr.alloc _) ⟨w.heap.size, 0, none⟩ 1 1 (accC c true a v) rfl rfl HCN.out (by simp [accC, Value.oneCell']) hmx (by omega) (Nat.zero_le _) ?_; intro tv' w1 hown hgr hmv; obtain ⟨A', cap', rfl⟩ := owns_slice hown; have hk4 : Keeps (fun k => tv.ownBlock = some k) w w1 := ((Keeps.refl _ w).alloc _).grown hgr (fun k hk _ => hk); have hb2 := (hk4.block b (Array.getElem?_eq_some_iff.1 B.box).1 (fun h => B.tb h)).trans B.box; have hc4 : w1.cell? ⟨b, 3, none⟩ = some tv := (by simp [World.cell?, hb2]); have hf4 := frozen_of_block hb2 3)
  go_ret
  obtain ⟨B3, m3, k3⟩ := rtold_end B hk4 hown (hmv.of_le (Keeps.size ((Keeps.refl (fun _ => False) w).alloc _)))
  exact ⟨rfl, _, B3, m3, k3⟩
theorem rbstore_dev (b q : Nat) (l : List UInt8) (lamp : Int) (tv : Value) (tn : Nat) (tb : List Value) (a n v c : Int) (w : World) (B : RBusAt w b q l lamp tv tn tb) (hl : l.length < 1000000) (hn : tn < 1000000) (ha : 0 ≤ a ∧ a < 4294967296) (hv : 0 ≤ v ∧ v < 4294967296) (h : devC a n = 0) :
    Calls Tryz.prog 97 #[.pointer (some ⟨b, 0, none⟩), .int .u32 a, .int .i64 n, .int .u32 v, .int .i64 c] w fun e w' => e = .returned (.int .i64 0) ∧
      RStored w w' b q (outL a v l) (lampV a v lamp) tv (tn + 1) (tb ++ accC c true a v) := by
  obtain ⟨rfl, h1, h2, h3⟩ := devC_ok h
  by_cases t1 : a = 65536
  · subst t1
    exact rbstore_con b q l lamp tv tn tb v c w B hl hn hv
  · by_cases t2 : a = 65544
    · subst t2
      exact rbstore_lamp b q l lamp tv tn tb v c w B hn hv
    · rw [outL, lampV, if_neg t1, if_neg t2]
      exact rbstore_else b q l lamp tv tn tb a v c w B hn ha hv h (by simpa using t1) (by simpa using t2)
end Go.Proofs.YtlbdkcnbgdmpaaaGreatDoor

/- As -/
/- The contracts of errors.As at '**api.Fault' (turned from the worked example 'toyas'). -/
namespace Go.Proofs.YtlbdkcnbgdmpaaaGreatDoor
open Go.RowKit Go.Extern.Stop Go.Stop Go.Extern
set_option linter.unusedVariables false

/-! ### THE ENTRIES THAT READ OR WRITE MEMORY: laws with a premise on the cell (after Derived/Lib/ReflectliteSlice.lean's manner: each unfolding a lemma of its own, by rfl) -/
theorem rlm (z : Sem Value) (f : TypeId → Addr → Nat → Nat → Sem Value) (v : Value) :
    ReflectliteValue.method z f #[v] = (do match ← ReflectliteValue.parts v with | none => z | some (t, a, fl) => f t a fl (fl % 32)) := rfl
theorem rls (v x : Value) : ReflectliteValue.set #[v, x] = (do
    let (some (dst, a, fl), some (src, b, _)) := (← ReflectliteValue.parts v, ← ReflectliteValue.parts x)
      | unsupported (.noEntry "extern/(internal/reflectlite.Value).Set.zeroValue")
    if fl / ReflectliteValue.flagAddr % 2 == 0 then unsupported (.noEntry "extern/(internal/reflectlite.Value).Set.unaddressable")
    let val ← loadVar src b
    if ← Rtype.directlyAssignable dst src then storeVar dst a val
    else if ← Rtype.implements dst src then
      if (← Rtype.kind src) == 20 then
        match val with
        | .nilIface => unsupported (.noEntry "extern/reflectlite: a nil value of one interface type handed on as a value of another")
        | _ => storeVar dst a val
      else storeVar dst a (.iface src val)
    else panicString ("reflectlite.Set: value of type " ++ (← Rtype.spelt src) ++ " is not assignable to type " ++ (← Rtype.spelt dst))
    pure (.tuple #[])) := rfl
end Go.Proofs.YtlbdkcnbgdmpaaaGreatDoor

/- Is -/
/- The contracts of errors.Is at sentinels, and at an *api.Fault of one (turned from the worked example 'sentry'). -/
namespace Go.Proofs.YtlbdkcnbgdmpaaaGreatDoor
open Go.RowKit Go.Extern.Stop Go.Stop Go.Extern
set_option linter.unusedVariables false

theorem Tryz.isComparable (w : World) : ((Extern.ReflectliteType.method fun t => do Extern.Rtype.noPackHeld "Comparable" t; (fun a => Value.bool a.comparable) <$> typeInfo t) #[.agg #[.pointer (some ⟨3, 136, none⟩)]]).run Tryz.prog w = .ok (.bool true) w := by kernel_rfl
theorem Tryz.isComp : (Tryz.prog.info? 136).map (·.comparable) = some true := by kernel_rfl
theorem Tryz.isSize : (Tryz.prog.info? 152).map (·.size) = some 1 := by kernel_rfl

end Go.Proofs.YtlbdkcnbgdmpaaaGreatDoor

/- AsMiss -/
/- errors.As at '**api.Fault' where the error is of errors.New's make: false. -/
namespace Go.Proofs.YtlbdkcnbgdmpaaaGreatDoor
open Go.RowKit Go.Extern.Stop Go.Stop Go.Extern
set_option linter.unusedVariables false

end Go.Proofs.YtlbdkcnbgdmpaaaGreatDoor

/- Code -/
/- The walk of plain.Code. -/
namespace Go.Proofs.YtlbdkcnbgdmpaaaGreatDoor
open Go.RowKit Go.Deep
set_option linter.unusedVariables false

theorem cell_set {w : World} {b o : Nat} {old v : Value} {T : TypeId} {cs : Array Value} {fz : Nat × Nat} (h : w.heap[b]? = some (.cells cs T fz)) (ho : o < cs.size) : (w.setCell ⟨b, o, none⟩ v).cell? ⟨b, o, none⟩ = some v := by
  have h2 : (w.setCell ⟨b, o, none⟩ v).heap[b]? = some (.cells (cs.setIfInBounds o v) T fz) := by simp [World.setCell, Array.getElem?_modify, h]
  unfold World.cell?
  rw [h2]
  simp [ho]
/-- the ten errors in a row -/
theorem ten_cells (w : World) (ea : Nat → Addr) (T : TypeId) (i : Nat) (hi : i < 10) :
    (w.alloc (.cells #[.iface 136 (.pointer (some (ea 1))), .iface 136 (.pointer (some (ea 2))), .iface 136 (.pointer (some (ea 3))), .iface 136 (.pointer (some (ea 4))), .iface 136 (.pointer (some (ea 5))), .iface 136 (.pointer (some (ea 6))), .iface 136 (.pointer (some (ea 7))), .iface 136 (.pointer (some (ea 8))), .iface 136 (.pointer (some (ea 9))), .iface 136 (.pointer (some (ea 10)))] T)).cell? ⟨w.heap.size, i, none⟩ = some (.iface 136 (.pointer (some (ea (i + 1))))) := by
  unfold World.cell?
  rw [blk_alloc_new]
  have : i = 0 ∨ i = 1 ∨ i = 2 ∨ i = 3 ∨ i = 4 ∨ i = 5 ∨ i = 6 ∨ i = 7 ∨ i = 8 ∨ i = 9 := by omega
  rcases this with rfl | rfl | rfl | rfl | rfl | rfl | rfl | rfl | rfl | rfl <;> rfl

end Go.Proofs.YtlbdkcnbgdmpaaaGreatDoor
