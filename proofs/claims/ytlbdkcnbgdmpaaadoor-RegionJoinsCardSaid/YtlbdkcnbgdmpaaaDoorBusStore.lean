
/- The walk of (*Bus).Store. -/
import Derived.Test.YtlbdkcnbgdmpaaaDoorBusLoad
namespace Go.Proofs.YtlbdkcnbgdmpaaaDoor
open Go.RowKit Go.Deep
set_option linter.unusedVariables false

set_option maxRecDepth 100000 in
set_option maxHeartbeats 1000000 in
theorem bstore_ok (b r pb pw ph cp c0 : Nat) (m : Nat → Int) (a n v c : Int) (w : World) (hb : w.cell? ⟨b, 0, none⟩ = some (.pointer (some ⟨r, 0, none⟩))) (R : RamAt w r pb pw ph cp m) (hw : w.heap[pw]? = some (.map #[] c0)) (h0 : 0 ≤ a ∧ a < 4294967296) (hv : 0 ≤ v ∧ v < 4294967296) (h : rightC a n = 0) :
    Calls Tryd.prog 88 #[.pointer (some ⟨b, 0, none⟩), .int .u32 a, .int .i64 n, .int .u32 v, .int .i64 c] w fun e w' => e = .returned .nilIface ∧ RamAt w' r pb pw ph cp (stTo m a.toNat n.toNat v n.toNat) ∧ Keeps (· = pb) w w' := by
  have hlt := (rightC_ok h).2.2
  go_enter Tryd.func88, Tryd.ntmps88
  go_wp2_with fail
  refine (store_empty _ _ _ _ _ _ m a n v _ R hw h0.1 hv h).mono ?_
  rintro e w' ⟨rfl, hT⟩
  go_wp2_with fail
  go_ret
  exact ⟨rfl, hT⟩
set_option maxHeartbeats 1000000 in
theorem bstore_bad (b r : Nat) (a n v c : Int) (w : World) (ea : Nat → Addr) (E : Errs3 w ea) (hb : w.cell? ⟨b, 0, none⟩ = some (.pointer (some ⟨r, 0, none⟩))) (h0 : 0 ≤ a ∧ a < 4294967296) (hlt : a < 16384) (h : rightC a n ≠ 0) :
    Calls Tryd.prog 88 #[.pointer (some ⟨b, 0, none⟩), .int .u32 a, .int .i64 n, .int .u32 v, .int .i64 c] w fun e w' => e = .returned (errV ea (rightC a n)) ∧ w = w' := by
  go_enter Tryd.func88, Tryd.ntmps88
  go_wp2_with fail
  refine (store_bad _ a n v _ ea E h0 h).mono ?_
  rintro e w' ⟨rfl, rfl⟩
  unfold errV
  go_wp2_with fail
  go_ret
  exact ⟨rfl, rfl⟩
set_option maxHeartbeats 1000000 in
theorem bstore_dbad (b : Nat) (a n v c : Int) (w : World) (ea : Nat → Addr) (E : Errs3 w ea) (h0 : 0 ≤ a ∧ a < 4294967296) (hlt : ¬ a < 16384) (h : devC a n ≠ 0) :
    Calls Tryd.prog 88 #[.pointer (some ⟨b, 0, none⟩), .int .u32 a, .int .i64 n, .int .u32 v, .int .i64 c] w fun e w' => e = .returned (errV ea (devC a n)) ∧ w = w' := by
  go_enter Tryd.func88, Tryd.ntmps88
  go_wp2_with fail
  refine (device_bad a n _ ea E h0 h).mono ?_
  rintro e w' ⟨rfl, rfl⟩
  unfold errV
  go_wp2_with fail
  go_ret
  exact ⟨rfl, rfl⟩

/-- the blocks that a bus may write -/
def busS (b : Nat) (ov tv : Value) (k : Nat) : Prop := k = b ∨ ov.ownBlock = some k ∨ tv.ownBlock = some k
theorem out_end {w w1 : World} {b r : Nat} {ov ov' : Value} {on : Nat} {ob xs : List Value} {lamp : Int} {tv : Value} {tn : Nat} {tb : List Value} (B : BusAt w b r ov on ob lamp tv tn tb)
    (hk : Keeps (fun k => ov.ownBlock = some k) w w1) (hown : w1.ownsRow 0 5 1 ov' (on + 1) xs) (hmv : Moved w ov ov') :
    BusAt (w1.setCell ⟨b, 1, none⟩ ov') b r ov' (on + 1) xs lamp tv tn tb ∧ Moved w ov ov' ∧ Keeps (fun k => k = b ∨ ov.ownBlock = some k) w (w1.setCell ⟨b, 1, none⟩ ov') := by
  have hbl : b < w.heap.size := (Array.getElem?_eq_some_iff.1 B.box).1
  have hb1 := (hk.block b hbl B.ob).trans B.box
  have hst := Keeps.one w1 b 1 ov'
  have htb := hmv.ne hbl B.ob
  have hkk : Keeps (fun k => k = b ∨ ov.ownBlock = some k) w (w1.setCell ⟨b, 1, none⟩ ov') := Keeps.trans (hk.mono (fun k _ h => Or.inr h)) hst (fun k _ h => Or.inl h)
  have hot : ∀ g, tv.ownBlock = some g → ¬ (g = b ∨ ov.ownBlock = some g) := by
    intro g hg h
    rcases h with rfl | h
    · exact B.tb hg
    · rcases B.ot with h0 | h0
      · rw [h0] at h; cases h
      · exact h0 (h.trans hg.symm)
  refine ⟨⟨set_block hb1 1 ov', owns_keep hown hst (fun g hg e => htb (e ▸ hg)), owns_keep B.tr hkk hot, B.rng, htb, B.tb, ?_⟩, hmv, hkk⟩
  cases hov : tv.ownBlock with
  | none =>
    cases ov'.ownBlock with
    | none => exact .inl rfl
    | some g => exact .inr (fun h => by cases h)
  | some g =>
    refine .inr fun e => ?_
    rcases hmv with h | h
    · exact hot g hov (.inr (h ▸ e))
    · have := owns_lt B.tr hov
      have := h g e
      omega
theorem BusAt.lamp {w : World} {b r : Nat} {ov : Value} {on : Nat} {ob : List Value} {lamp : Int} {tv : Value} {tn : Nat} {tb : List Value} (B : BusAt w b r ov on ob lamp tv tn tb) (v : Int) (hv : 0 ≤ v ∧ v < 4294967296) :
    BusAt (w.setCell ⟨b, 2, none⟩ (.int .u32 v)) b r ov on ob v tv tn tb :=
  ⟨set_block B.box 2 _, owns_keep B.out (Keeps.one w b 2 _) (fun g hg e => B.ob (e ▸ hg)), owns_keep B.tr (Keeps.one w b 2 _) (fun g hg e => B.tb (e ▸ hg)), hv, B.ob, B.tb, B.ot⟩

/-- what a store to a device leaves -/
def Stored (w w' : World) (b r : Nat) (ov : Value) (on : Nat) (ob : List Value) (lamp : Int) (tv : Value) (tn : Nat) (tb : List Value) : Prop :=
  ∃ ov' tv', BusAt w' b r ov' on ob lamp tv' tn tb ∧ Moved w ov ov' ∧ Moved w tv tv' ∧ Keeps (busS b ov tv) w w'
set_option maxRecDepth 100000 in
set_option maxHeartbeats 2000000 in
theorem bstore_con (b r : Nat) (ov : Value) (on : Nat) (ob : List Value) (lamp : Int) (tv : Value) (tn : Nat) (tb : List Value) (v c : Int) (w : World) (B : BusAt w b r ov on ob lamp tv tn tb) (ho : on < 1000000) (hn : tn < 1000000) (hv : 0 ≤ v ∧ v < 4294967296) :
    Calls Tryd.prog 88 #[.pointer (some ⟨b, 0, none⟩), .int .u32 65536, .int .i64 4, .int .u32 v, .int .i64 c] w fun e w' => e = .returned .nilIface ∧
      Stored w w' b r ov (on + 1) (ob ++ [.int .u8 (v % 256)]) lamp tv (tn + 1) (tb ++ accC c true 65536 v) := by
  obtain ⟨i0, hi, hz0, hz1, hz2⟩ := info_parts Tryd.info_byte
  have hwv : IntKind.u8.wrap v = v % 256 := rfl
  have hc1 : w.cell? ⟨b, 1, none⟩ = some ov := by simp [World.cell?, B.box]
  have hcn : ∀ j u, [Value.int .u8 (v % 256)][j]? = some u → (w.alloc (.cells #[.int .u8 (v % 256)] 5)).cell? ((⟨w.heap.size, 0, none⟩ : Addr).add j) = some u := fun j u h => cells_new w _ _ j u h
  have hmx : on + 1 ≤ maxLen := by unfold maxLen; omega
  go_enter Tryd.func88, Tryd.ntmps88
  go_wp2_with fail
  refine (device_ok 65536 4 _ (by omega) (by decide)).mono ?_
  rintro e w' ⟨rfl, rfl⟩
  go_wp2_with (at_builtin; refine wpList_append_mine rfl (.tmp 35) (.tmp 38) 69 rfl 0 5 i0 _ 1 1 Tryd.underlying69 hi hz0 hz1 hz2 rfl (by decide) ov on ob rfl (B.out.alloc _) ⟨w.heap.size, 0, none⟩ 1 1 [.int .u8 (v % 256)] rfl rfl hcn (by simp [Value.oneCell']) hmx (by omega) (Nat.zero_le _) ?_; intro ov' w1 hown hgr hmv; obtain ⟨A', cap', rfl⟩ := owns_slice hown; have hk2 : Keeps (fun k => ov.ownBlock = some k) w w1 := ((Keeps.refl _ w).alloc _).grown hgr (fun k hk _ => hk); have hb2 := (hk2.block b (Array.getElem?_eq_some_iff.1 B.box).1 (fun h => B.ob h)).trans B.box; have hc2 : w1.cell? ⟨b, 1, none⟩ = some ov := (by simp [World.cell?, hb2]); have hf2 := frozen_of_block hb2 1)
  obtain ⟨B2, hm2, hkk⟩ := out_end B hk2 hown (hmv.of_le (Keeps.size ((Keeps.refl (fun _ => False) w).alloc _)))
  refine (told_any b r _ _ _ lamp tv tn tb c true _ _ _ B2 hn).mono ?_
  rintro e w' ⟨rfl, tv', B3, hm3, hk3⟩
  go_wp2_with fail
  go_ret
  refine ⟨rfl, _, tv', B3, hm2, hm3.of_le hkk.size, Keeps.trans (hkk.mono (fun k _ h => ?_)) hk3 (fun k _ h => ?_)⟩
  · rcases h with h | h
    · exact .inl h
    · exact .inr (.inl h)
  · rcases h with h | h
    · exact .inl h
    · exact .inr (.inr h)
set_option maxRecDepth 100000 in
set_option maxHeartbeats 2000000 in
theorem bstore_lamp (b r : Nat) (ov : Value) (on : Nat) (ob : List Value) (lamp : Int) (tv : Value) (tn : Nat) (tb : List Value) (v c : Int) (w : World) (B : BusAt w b r ov on ob lamp tv tn tb) (hn : tn < 1000000) (hv : 0 ≤ v ∧ v < 4294967296) :
    Calls Tryd.prog 88 #[.pointer (some ⟨b, 0, none⟩), .int .u32 65544, .int .i64 4, .int .u32 v, .int .i64 c] w fun e w' => e = .returned .nilIface ∧
      Stored w w' b r ov on ob v tv (tn + 1) (tb ++ accC c true 65544 v) := by
  have hc2 : w.cell? ⟨b, 2, none⟩ = some (.int .u32 lamp) := by simp [World.cell?, B.box]
  have hf2 := frozen_of_block B.box 2
  have B2 := B.lamp v hv
  have hkk := Keeps.one w b 2 (.int .u32 v)
  go_enter Tryd.func88, Tryd.ntmps88
  go_wp2_with fail
  refine (device_ok 65544 4 _ (by omega) (by decide)).mono ?_
  rintro e w' ⟨rfl, rfl⟩
  go_wp2_with fail
  refine (told_any b r _ _ _ _ tv tn tb c true _ _ _ B2 hn).mono ?_
  rintro e w' ⟨rfl, tv', B3, hm3, hk3⟩
  go_wp2_with fail
  go_ret
  refine ⟨rfl, _, tv', B3, .inl rfl, hm3.of_le hkk.size, Keeps.trans (hkk.mono (fun k _ h => .inl h)) hk3 (fun k _ h => ?_)⟩
  rcases h with h | h
  · exact .inl h
  · exact .inr (.inr h)
set_option maxRecDepth 100000 in
set_option maxHeartbeats 2000000 in
theorem bstore_else (b r : Nat) (ov : Value) (on : Nat) (ob : List Value) (lamp : Int) (tv : Value) (tn : Nat) (tb : List Value) (a v c : Int) (w : World) (B : BusAt w b r ov on ob lamp tv tn tb) (hn : tn < 1000000) (ha : 0 ≤ a ∧ a < 4294967296) (h : devC a 4 = 0) (t1 : (a == 65536) = false) (t2 : (a == 65544) = false) :
    Calls Tryd.prog 88 #[.pointer (some ⟨b, 0, none⟩), .int .u32 a, .int .i64 4, .int .u32 v, .int .i64 c] w fun e w' => e = .returned .nilIface ∧
      Stored w w' b r ov on ob lamp tv (tn + 1) (tb ++ accC c true a v) := by
  obtain ⟨_, h1, h2, h3⟩ := devC_ok h
  have hlt : ¬ a < 16384 := by omega
  go_enter Tryd.func88, Tryd.ntmps88
  go_wp2_with fail
  refine (device_ok a 4 _ ha h).mono ?_
  rintro e w' ⟨rfl, rfl⟩
  go_wp2_with fail
  refine (told_any b r _ _ _ _ tv tn tb c true _ _ _ B hn).mono ?_
  rintro e w' ⟨rfl, tv', B3, hm3, hk3⟩
  go_wp2_with fail
  go_ret
  refine ⟨rfl, _, tv', B3, .inl rfl, hm3, hk3.mono (fun k _ h => ?_)⟩
  rcases h with h | h
  · exact .inl h
  · exact .inr (.inr h)

/-- what a store leaves of the console's output, and of the lamp -/
def outN (a : Int) (on : Nat) : Nat := if a = 65536 then on + 1 else on
def outB (a v : Int) (ob : List Value) : List Value := if a = 65536 then ob ++ [.int .u8 (v % 256)] else ob
def lampV (a v lamp : Int) : Int := if a = 65544 then v else lamp
theorem bstore_dev (b r : Nat) (ov : Value) (on : Nat) (ob : List Value) (lamp : Int) (tv : Value) (tn : Nat) (tb : List Value) (a n v c : Int) (w : World) (B : BusAt w b r ov on ob lamp tv tn tb) (ho : on < 1000000) (hn : tn < 1000000) (ha : 0 ≤ a ∧ a < 4294967296) (hv : 0 ≤ v ∧ v < 4294967296) (h : devC a n = 0) :
    Calls Tryd.prog 88 #[.pointer (some ⟨b, 0, none⟩), .int .u32 a, .int .i64 n, .int .u32 v, .int .i64 c] w fun e w' => e = .returned .nilIface ∧
      Stored w w' b r ov (outN a on) (outB a v ob) (lampV a v lamp) tv (tn + 1) (tb ++ accC c true a v) := by
  obtain ⟨rfl, h1, h2, h3⟩ := devC_ok h
  by_cases t1 : a = 65536
  · subst t1
    exact bstore_con b r ov on ob lamp tv tn tb v c w B ho hn hv
  · by_cases t2 : a = 65544
    · subst t2
      exact bstore_lamp b r ov on ob lamp tv tn tb v c w B hn hv
    · rw [outN, outB, lampV, if_neg t1, if_neg t1, if_neg t2]
      exact bstore_else b r ov on ob lamp tv tn tb a v c w B hn ha h (by simpa using t1) (by simpa using t2)
end Go.Proofs.YtlbdkcnbgdmpaaaDoor
