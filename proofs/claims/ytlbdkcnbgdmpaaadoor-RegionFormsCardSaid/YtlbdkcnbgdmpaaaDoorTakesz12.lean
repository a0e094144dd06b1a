import Derived.Test.YtlbdkcnbgdmpaaaDoorTakesz5
import Derived.Test.YtlbdkcnbgdmpaaaDoorTakesz8
import Derived.Test.YtlbdkcnbgdmpaaaDoorTakesz11
import Derived.Test.YtlbdkcnbgdmpaaaDoorTakesz7
import Derived.DeepKeys
import Derived.Test.YtlbdkcnbgdmpaaaDoorTakesz3

/- CpuRng -/
/- The ranges of what a step computes; its count; register 0. No program in sight. -/
namespace Go.Proofs.YtlbdkcnbgdmpaaaDoor
open Go.RowKit
set_option linter.unusedVariables false
namespace Cp
theorem W_mod (x : Int) : W (x % 4294967296) := by unfold W; omega
theorem W_bit (b : Bool) : W (bit b) := by
  unfold bit W
  split <;> omega
theorem W_and (a b : Int) (ha : W a) (hb : W b) : W (bits .and .u32 a b) := by
  have h := Nat.and_lt_two_pow (a.toNat) (n := 32) (y := b.toNat) (by have := hb.1; have := hb.2; omega)
  rw [u32_and a b ha.1 ha.2 hb.1 hb.2]
  unfold W
  omega
theorem W_or (a b : Int) (ha : W a) (hb : W b) : W (bits .or .u32 a b) := by
  have h := Nat.or_lt_two_pow (n := 32) (x := a.toNat) (y := b.toNat) (by have := ha.1; have := ha.2; omega) (by have := hb.1; have := hb.2; omega)
  rw [u32_or a b ha.1 ha.2 hb.1 hb.2]
  unfold W
  omega
theorem W_xor (a b : Int) (ha : W a) (hb : W b) : W (bits .xor .u32 a b) := by
  have h := Nat.xor_lt_two_pow (n := 32) (x := a.toNat) (y := b.toNat) (by have := ha.1; have := ha.2; omega) (by have := hb.1; have := hb.2; omega)
  rw [u32_xor a b ha.1 ha.2 hb.1 hb.2]
  unfold W
  omega
theorem W_shift (k a n : Int) (ha : W a) : W (Wd.shift k a n) := by
  unfold Wd.shift
  split
  · exact W_mod _
  · split
    · unfold Wd.shr
      have hq : (0 : Int) ≤ 2 ^ (n % 32).toNat := Int.le_of_lt (Int.pow_pos (by decide))
      exact ⟨Int.ediv_nonneg ha.1 hq, Int.lt_of_le_of_lt (Int.ediv_le_self _ ha.1) ha.2⟩
    · split
      · exact W_mod _
      · exact ha
theorem W_wide (v n : Int) (s : Bool) (hv : W v) : W (Wd.wide v n s) := by
  unfold Wd.wide
  split
  · exact hv
  · split
    · exact W_mod _
    · have hq := Wd.p2 n.toNat (by omega)
      have h1 := Int.emod_nonneg v (b := 2 ^ n.toNat) (by omega)
      have h2 := Int.emod_lt_of_pos v (b := 2 ^ n.toNat) (by omega)
      unfold W
      omega
theorem W_quo (a b : Int) (s : Bool) (ha : W a) (hb : W b) : W (Wd.quo a b s) := by
  unfold Wd.quo
  split
  · exact W_0
  · split
    · exact W_mod _
    · exact ⟨Int.ediv_nonneg ha.1 hb.1, Int.lt_of_le_of_lt (Int.ediv_le_self _ ha.1) ha.2⟩
theorem W_rst (a b : Int) (s : Bool) (ha : W a) (hb : W b) : W (Wd.rst a b s) := by
  unfold Wd.rst
  split
  · exact W_0
  · rename_i hz
    split
    · exact W_mod _
    · have hb1 := hb.1
      have h1 := Int.emod_nonneg a hz
      have h2 := Int.emod_lt_of_pos a (b := b) (by omega)
      exact ⟨h1, Int.lt_trans h2 hb.2⟩
theorem W_sumV (op : Nat) (a b imm : Int) (ha : W a) (hb : W b) : W (sumV op a b imm) := by
  unfold sumV
  split
  all_goals first
    | exact W_shift _ _ _ hb
    | exact W_u _
    | exact W_and _ _ ha hb
    | exact W_or _ _ ha hb
    | exact W_xor _ _ ha hb
    | exact W_xor _ _ (by unfold W; omega) (W_or _ _ ha hb)
    | exact W_bit _
    | exact W_0
theorem W_atV (op : Nat) (a n imm : Int) (ha : W a) (hi : W imm) : W (atV op a n imm) := by
  unfold atV
  split
  all_goals first
    | exact W_u _
    | exact W_and _ _ ha hi
    | exact W_or _ _ ha hi
    | exact W_xor _ _ ha hi
    | exact W_bit _
/-- what an instruction keeps of a state -/
structure Nxt (s s' : St) : Prop where
  rng : Rng s'
  count : s'.count = s.count
  r0 : s'.R 0 = s.R 0
theorem nxt_refl {s : St} (h : Rng s) : Nxt s s := ⟨h, rfl, rfl⟩
theorem nxt_setR {s : St} (h : Rng s) (n v : Int) (hn : 0 ≤ n) (hv : W v) : Nxt s (setR s n v) := by
  unfold setR
  split
  · exact nxt_refl h
  · rename_i h0
    refine ⟨⟨fun k hk => ?_, h.hi, h.lo, h.pc, h.next, h.status, h.cause, h.epc, h.bad, h.compare, h.count⟩, rfl, ?_⟩
    · show W (if k = n.toNat then v else s.R k)
      split
      · exact hv
      · exact h.R k hk
    · show (if 0 = n.toNat then v else s.R 0) = s.R 0
      rw [if_neg (by omega)]
def EOk (e : Int) : Prop := e = -1 ∨ (0 ≤ e ∧ e < 32)
theorem nxt_sumAt (i : Cd.Ins) (s : St) (a b : Int) (h : Rng s) (hi : Cd.Ok i) (ha : W a) (hb : W b) : Nxt s (sumAt i s a b).2 ∧ EOk (sumAt i s a b).1 := by
  have hD := hi.D.1
  unfold sumAt
  split
  · exact ⟨nxt_setR h _ _ hD h.hi, .inl rfl⟩
  · exact ⟨⟨⟨h.R, ha, h.lo, h.pc, h.next, h.status, h.cause, h.epc, h.bad, h.compare, h.count⟩, rfl, rfl⟩, .inl rfl⟩
  · exact ⟨nxt_setR h _ _ hD h.lo, .inl rfl⟩
  · exact ⟨⟨⟨h.R, h.hi, ha, h.pc, h.next, h.status, h.cause, h.epc, h.bad, h.compare, h.count⟩, rfl, rfl⟩, .inl rfl⟩
  · exact ⟨⟨⟨h.R, W_mod _, W_mod _, h.pc, h.next, h.status, h.cause, h.epc, h.bad, h.compare, h.count⟩, rfl, rfl⟩, .inl rfl⟩
  · exact ⟨⟨⟨h.R, W_mod _, W_mod _, h.pc, h.next, h.status, h.cause, h.epc, h.bad, h.compare, h.count⟩, rfl, rfl⟩, .inl rfl⟩
  · refine ⟨?_, .inl rfl⟩
    split
    · exact nxt_refl h
    · exact ⟨⟨h.R, W_rst _ _ _ ha hb, W_quo _ _ _ ha hb, h.pc, h.next, h.status, h.cause, h.epc, h.bad, h.compare, h.count⟩, rfl, rfl⟩
  · refine ⟨?_, .inl rfl⟩
    split
    · exact nxt_refl h
    · exact ⟨⟨h.R, W_rst _ _ _ ha hb, W_quo _ _ _ ha hb, h.pc, h.next, h.status, h.cause, h.epc, h.bad, h.compare, h.count⟩, rfl, rfl⟩
  · split
    · exact ⟨nxt_refl h, .inr ⟨by omega, by omega⟩⟩
    · exact ⟨nxt_setR h _ _ hD (W_sumV _ _ _ _ ha hb), .inl rfl⟩
theorem W_R {s : St} (h : Rng s) (n : Int) (hn : 0 ≤ n ∧ n < 32) : W (s.R n.toNat) := h.R _ (by omega)
theorem nxt_sum (i : Cd.Ins) (s : St) (h : Rng s) (hi : Cd.Ok i) : Nxt s (sum i s).2 ∧ EOk (sum i s).1 := nxt_sumAt i s _ _ h hi (W_R h _ hi.S) (W_R h _ hi.T)
theorem nxt_atOnce (i : Cd.Ins) (s : St) (h : Rng s) (hi : Cd.Ok i) : Nxt s (atOnce i s).2 ∧ EOk (atOnce i s).1 := by
  unfold atOnce
  split
  · exact ⟨nxt_refl h, .inr ⟨by omega, by omega⟩⟩
  · exact ⟨nxt_setR h _ _ hi.T.1 (W_atV _ _ _ _ (W_R h _ hi.S) ⟨hi.imm.1, by have := hi.imm.2; omega⟩), .inl rfl⟩
/-- the ranges of what a bus holds -/
structure BRng (B : Sb) : Prop where
  m : ∀ i, i < 16384 → 0 ≤ B.m i ∧ B.m i < 256
  lamp : W B.lamp
theorem stC_ok {a n : Int} (h : stC a n = 0) (ha : a < 16384) : (n = 1 ∨ n = 2 ∨ n = 4) ∧ a % n = 0 := by
  rw [stC_ram ha] at h
  exact ⟨(rightC_ok h).1, (rightC_ok h).2.1⟩
theorem W_ldV (a n c : Int) (sg : Bool) (B : Sb) (h : BRng B) (ha : 0 ≤ a) : W (ldV a n c sg B) := by
  unfold ldV
  split
  · exact W_0
  · rename_i hc
    split
    · rename_i hr
      obtain ⟨h1, h2⟩ := stC_ok (by simpa using hc) hr
      refine W_wide _ _ _ ?_
      have := be_rng B.m a.toNat n.toNat (fun i hi => h.m _ (by rcases h1 with rfl | rfl | rfl <;> omega))
      rcases h1 with rfl | rfl | rfl
      · have h3 := this.2; simp at h3; exact ⟨this.1, by simp; omega⟩
      · have h3 := this.2; simp at h3; exact ⟨this.1, by simp; omega⟩
      · have h3 := this.2; simp at h3; exact ⟨this.1, by simp; omega⟩
    · unfold devV
      split
      · exact W_mod _
      · split
        · exact h.lamp
        · exact W_0
theorem W_addr (i : Cd.Ins) (s : St) : W (addr i s) := W_u _
theorem nxt_bad {s : St} (h : Rng s) (a : Int) (ha : W a) : Nxt s { s with bad := a } := ⟨⟨h.R, h.hi, h.lo, h.pc, h.next, h.status, h.cause, h.epc, ha, h.compare, h.count⟩, rfl, rfl⟩
/-- a bus grows by one at most -/
def Near (B B' : Sb) : Prop := B'.l.length ≤ B.l.length + 1 ∧ B'.tn ≤ B.tn + 1
theorem near_refl (B : Sb) : Near B B := ⟨by omega, by omega⟩
theorem near_stepL (a n c : Int) (B : Sb) : Near B (stepL a n c B) := by
  unfold stepL
  split
  · exact near_refl B
  · split
    · exact near_refl B
    · exact ⟨Nat.le_succ _, Nat.le_refl _⟩
theorem near_stepS (a n v c : Int) (B : Sb) : Near B (stepS a n v c B) := by
  unfold stepS
  split
  · exact near_refl B
  · split
    · exact near_refl B
    · refine ⟨?_, Nat.le_refl _⟩
      have := (outL_byteVals a v B.l).2
      show (outL a v B.l).length ≤ _
      rw [← this]
      unfold outN
      split <;> omega
theorem nxt_load (i : Cd.Ins) (s : St) (B : Sb) (h : Rng s) (hi : Cd.Ok i) (hB : BRng B) : Nxt s (load i s B).2.1 ∧ EOk (load i s B).1 ∧ Near B (load i s B).2.2 := by
  unfold load
  split
  · exact ⟨nxt_bad h _ (W_addr i s), .inr ⟨by omega, by omega⟩, near_refl B⟩
  · exact ⟨nxt_setR h _ _ hi.T.1 (W_ldV _ _ _ _ B hB (W_addr i s).1), .inl rfl, near_stepL _ _ _ B⟩
theorem nxt_store (i : Cd.Ins) (s : St) (B : Sb) (h : Rng s) (hi : Cd.Ok i) : Nxt s (store i s B).2.1 ∧ EOk (store i s B).1 ∧ Near B (store i s B).2.2 := by
  unfold store
  split
  · exact ⟨nxt_bad h _ (W_addr i s), .inr ⟨by omega, by omega⟩, near_refl B⟩
  · exact ⟨nxt_refl h, .inl rfl, near_stepS _ _ _ _ B⟩
theorem nxt_link (i : Cd.Ins) (s : St) (h : Rng s) (hi : Cd.Ok i) : Nxt s (link i s) := by
  unfold link
  split
  · exact nxt_setR h _ _ (by omega) (W_u _)
  · exact nxt_setR h _ _ hi.D.1 (W_u _)
  · exact nxt_refl h
theorem W_near (i : Cd.Ins) (s : St) : W (near i s) := W_u _
theorem W_far (i : Cd.Ins) (s : St) (hi : Cd.Ok i) : W (far i s) := by
  have h1 := W_u (s.pc + 4)
  have h2 := hi.imm
  unfold far
  unfold W at h1 ⊢
  omega
theorem W_to (i : Cd.Ins) (s : St) (h : Rng s) (hi : Cd.Ok i) (nx : Int) (hn : W nx) : W ((Cp.to i s).getD nx) := by
  unfold Cp.to
  split
  · exact W_far i s hi
  · exact W_far i s hi
  · split
    · exact W_near i s
    · exact hn
  · split
    · exact hn
    · exact W_near i s
  · split
    · exact W_near i s
    · exact hn
  · split
    · exact hn
    · exact W_near i s
  · exact W_R h _ hi.S
theorem nxt_branch (i : Cd.Ins) (s : St) (nx : Int) (br : Bool) (h : Rng s) (hi : Cd.Ok i) (hn : W nx) : Nxt s (branch i s nx br).2.1 ∧ EOk (branch i s nx br).1 ∧ W (branch i s nx br).2.2.1 := by
  unfold branch
  split
  · exact ⟨nxt_refl h, .inr ⟨by omega, by omega⟩, hn⟩
  · exact ⟨nxt_link i s h hi, .inl rfl, W_to i s h hi nx hn⟩
theorem nxt_from (i : Cd.Ins) (s : St) (h : Rng s) (hi : Cd.Ok i) : Nxt s (from_ i s).2 ∧ EOk (from_ i s).1 := by
  have hT := hi.T.1
  unfold from_
  repeat' split
  · exact ⟨nxt_setR h _ _ hT h.bad, .inl rfl⟩
  · exact ⟨nxt_setR h _ _ hT (W_u _), .inl rfl⟩
  · exact ⟨nxt_setR h _ _ hT h.compare, .inl rfl⟩
  · exact ⟨nxt_setR h _ _ hT h.status, .inl rfl⟩
  · exact ⟨nxt_setR h _ _ hT h.cause, .inl rfl⟩
  · exact ⟨nxt_setR h _ _ hT h.epc, .inl rfl⟩
  · exact ⟨nxt_refl h, .inr ⟨by omega, by omega⟩⟩
theorem nxt_to (i : Cd.Ins) (s : St) (h : Rng s) (hi : Cd.Ok i) : Nxt s (to_ i s).2 ∧ EOk (to_ i s).1 := by
  have hT := W_R h _ hi.T
  unfold to_
  repeat' split
  · exact ⟨⟨⟨h.R, h.hi, h.lo, h.pc, h.next, h.status, h.cause, h.epc, h.bad, hT, h.count⟩, rfl, rfl⟩, .inl rfl⟩
  · exact ⟨⟨⟨h.R, h.hi, h.lo, h.pc, h.next, by unfold W; show 0 ≤ s.R i.T.toNat % 4 ∧ s.R i.T.toNat % 4 < 4294967296; omega, h.cause, h.epc, h.bad, h.compare, h.count⟩, rfl, rfl⟩, .inl rfl⟩
  · exact ⟨⟨⟨h.R, h.hi, h.lo, h.pc, h.next, h.status, h.cause, hT, h.bad, h.compare, h.count⟩, rfl, rfl⟩, .inl rfl⟩
  · exact ⟨nxt_refl h, .inr ⟨by omega, by omega⟩⟩
theorem nxt_trap (i : Cd.Ins) (s : St) (h : Rng s) (hi : Cd.Ok i) : Nxt s (trap i s).2 ∧ EOk (trap i s).1 := by
  unfold trap
  split
  · exact ⟨nxt_refl h, .inr ⟨by omega, by omega⟩⟩
  · exact ⟨nxt_refl h, .inr ⟨by omega, by omega⟩⟩
  · exact nxt_from i s h hi
  · exact nxt_to i s h hi
  · split
    · exact ⟨nxt_refl h, .inr ⟨by omega, by omega⟩⟩
    · rename_i hs
      have h2 := h.status
      have h3 : ¬ s.status / 2 % 2 = 0 := fun e => hs (.inl e)
      exact ⟨⟨⟨h.R, h.hi, h.lo, h.epc, W_u _, by unfold W at h2 ⊢; show 0 ≤ s.status - 2 ∧ s.status - 2 < 4294967296; omega, h.cause, h.epc, h.bad, h.compare, h.count⟩, rfl, rfl⟩, .inl rfl⟩
  · exact ⟨nxt_refl h, .inr ⟨by omega, by omega⟩⟩
theorem nxt_do (i : Cd.Ins) (s : St) (B : Sb) (nx : Int) (br : Bool) (h : Rng s) (hi : Cd.Ok i) (hB : BRng B) (hn : W nx) : Nxt s (doIt i s B nx br).s ∧ EOk (doIt i s B nx br).e ∧ W (doIt i s B nx br).nx ∧ Near B (doIt i s B nx br).b := by
  unfold doIt
  split
  · obtain ⟨h1, h2, h3⟩ := nxt_branch i s nx br h hi hn
    exact ⟨h1, h2, h3, near_refl B⟩
  · obtain ⟨h1, h2, h3⟩ := nxt_load i s B h hi hB
    exact ⟨h1, h2, hn, h3⟩
  · obtain ⟨h1, h2, h3⟩ := nxt_store i s B h hi
    exact ⟨h1, h2, hn, h3⟩
  · obtain ⟨h1, h2⟩ := nxt_trap i s h hi
    exact ⟨h1, h2, hn, near_refl B⟩
  · split
    · obtain ⟨h1, h2⟩ := nxt_atOnce i s h hi
      exact ⟨h1, h2, hn, near_refl B⟩
    · obtain ⟨h1, h2⟩ := nxt_sum i s h hi
      exact ⟨h1, h2, hn, near_refl B⟩
theorem nxt_ins (i : Cd.Ins) (s : St) (B : Sb) (h : Rng s) (hi : Cd.Ok i) (hB : BRng B) : Nxt s (ins i s B).2.1 ∧ EOk (ins i s B).1 ∧ Near B (ins i s B).2.2 := by
  obtain ⟨h1, h2, h3, h4⟩ := nxt_do i s B (u (s.next + 4)) false h hi hB (W_u _)
  unfold ins
  refine ⟨?_, h2, h4⟩
  simp only
  split
  · have g := h1.rng
    exact ⟨⟨g.R, g.hi, g.lo, g.next, h3, g.status, g.cause, g.epc, g.bad, g.compare, g.count⟩, h1.count, h1.r0⟩
  · exact h1
theorem nxt_one (s : St) (B : Sb) (h : Rng s) (hB : BRng B) : Nxt s (one s B).2.1 ∧ EOk (one s B).1 ∧ Near B (one s B).2.2 := by
  unfold one
  split
  · exact ⟨nxt_refl h, .inr ⟨by omega, by omega⟩, near_refl B⟩
  · split
    · exact ⟨nxt_bad h _ h.pc, .inr ⟨by omega, by omega⟩, near_refl B⟩
    · exact nxt_ins _ s B h (Cd.ok_dec _) hB
theorem W_384 : W 384 := by unfold W; omega
theorem W_388 : W 388 := by unfold W; omega
theorem nxt_enter (s : St) (c : Int) (h : Rng s) (hc : 0 ≤ c ∧ c < 32) : Nxt s (enter s c) := by
  have h2 := h.status
  have h3 := h.cause
  have h4 := h.pc
  unfold enter
  split
  · refine ⟨⟨h.R, h.hi, h.lo, W_384, W_388, ?_, ?_, ?_, h.bad, h.compare, h.count⟩, rfl, rfl⟩
    · unfold W at h2 ⊢
      show 0 ≤ s.status + 2 ∧ s.status + 2 < 4294967296
      omega
    · show W (if s.slot then 4 * c + 2147483648 else 4 * c)
      split <;> (unfold W; omega)
    · show W (if s.slot then u (s.pc - 4) else s.pc)
      split
      · exact W_u _
      · exact h.pc
  · refine ⟨⟨h.R, h.hi, h.lo, W_384, W_388, h.status, ?_, h.epc, h.bad, h.compare, h.count⟩, rfl, rfl⟩
    show W (s.cause - s.cause / 4 % 32 * 4 + 4 * c)
    unfold W at h3 ⊢
    omega
theorem nxt_step (s : St) (B : Sb) (h : Rng s) (hB : BRng B) (hc : s.count < 4611686018427387903) : Rng (step s B).2.1 ∧ (step s B).2.1.count = s.count + 1 ∧ (step s B).2.1.R 0 = s.R 0 ∧ EOk (step s B).1 ∧ Near B (step s B).2.2 := by
  obtain ⟨h1, h2, h3⟩ := nxt_one s B h hB
  unfold step
  refine ⟨?_, ?_, ?_, h2, h3⟩
  all_goals simp only
  all_goals generalize one s B = o at h1 h2
  · have h4 := h1.count
    have h5 := h.count
    split
    · have g := h1.rng
      exact ⟨g.R, g.hi, g.lo, g.pc, g.next, g.status, g.cause, g.epc, g.bad, g.compare, by show 0 ≤ o.2.1.count + 1 ∧ o.2.1.count + 1 < 4611686018427387904; omega⟩
    · rename_i hne
      have k := nxt_enter o.2.1 o.1 h1.rng (h2.resolve_left hne)
      have g := k.rng
      have h6 := k.count
      exact ⟨g.R, g.hi, g.lo, g.pc, g.next, g.status, g.cause, g.epc, g.bad, g.compare, by show 0 ≤ (enter o.2.1 o.1).count + 1 ∧ (enter o.2.1 o.1).count + 1 < 4611686018427387904; omega⟩
  · have h4 := h1.count
    split
    · omega
    · rename_i hne
      have k := (nxt_enter o.2.1 o.1 h1.rng (h2.resolve_left hne)).count
      omega
  · have h4 := h1.r0
    split
    · exact h4
    · rename_i hne
      exact (nxt_enter o.2.1 o.1 h1.rng (h2.resolve_left hne)).r0.trans h4
end Cp
end Go.Proofs.YtlbdkcnbgdmpaaaDoor

/- CpuStepAll -/
/- cpu.one and cpu.Step at any state. -/
namespace Go.Proofs.YtlbdkcnbgdmpaaaDoor
open Go.RowKit Go.Deep
set_option linter.unusedVariables false

theorem BInv.brng {b : Nat} {O : Nat → Prop} {w : World} {B : Sb} (h : BInv b O w B) : Cp.BRng B := by
  obtain ⟨r, pb, pw, ph, cp, ov, tv, h⟩ := h
  exact ⟨h.ram.rng, h.bus.rng⟩
theorem one_all (sb b : Nat) (O : Nat → Prop) (s : Cp.St) (B : Sb) (w : World) (ea : Nat → Addr) (E : Errs3 w ea) (hS : StAt w sb s) (hB : BInv b O w B) (hs : Cp.Rng s) (hl : B.l.length < 1000000) (hn : B.tn < 1000000) (hOs : ¬ O sb) :
    Calls Tryd.prog 42 #[.pointer (some ⟨sb, 0, none⟩), .pointer (some ⟨b, 0, none⟩)] w fun e w' => StepOk w w' sb b O (Cp.one s B) e := by
  by_cases hd : Cp.due s = true
  · rw [show Cp.one s B = (0, s, B) by unfold Cp.one; rw [if_pos hd]]
    refine (one_due sb b s w hS hs hd).mono ?_
    rintro e w' ⟨rfl, rfl⟩
    exact ⟨rfl, hS, O, hB, Grew.refl _ _, Keeps.refl _ _⟩
  have hd' : Cp.due s = false := by simpa using hd
  by_cases hp : rightC s.pc 4 = 0
  · rw [show Cp.one s B = Cp.ins (Cd.decOf (be B.m s.pc.toNat 4)) s B by unfold Cp.one; rw [if_neg hd, if_neg (by simpa using hp)]]
    have h16 := (rightC_ok hp).2
    have hr := be_rng B.m s.pc.toNat 4 (fun i hi => hB.brng.m _ (by have := h16.1; have := h16.2; have := hs.pc.1; omega))
    have h3 := hr.2
    simp at h3
    exact one_ins sb b O s B w ea E hS hB hs hOs hd' hp _ rfl ⟨hr.1, h3⟩ _ rfl
      (fun x w2 E2 X2 hS2 hB2 hxs hOx => do_any x sb b O _ _ _ s B w2 ea E2 X2 hS2 hB2 hs (Cd.ok_dec _) hl hn hxs hOx hOs _ (Lib.hid rfl)) _ (Lib.hid rfl)
  · rw [show Cp.one s B = (4, { s with bad := s.pc }, B) by unfold Cp.one; rw [if_neg hd, if_pos (by simpa using hp)]]
    exact one_bad sb b O s B w ea E hS hB hs hOs hd' hp
theorem step_all (sb b : Nat) (O : Nat → Prop) (s : Cp.St) (B : Sb) (w : World) (ea : Nat → Addr) (E : Errs3 w ea) (hS : StAt w sb s) (hB : BInv b O w B) (hs : Cp.Rng s) (hl : B.l.length < 1000000) (hn : B.tn < 1000000) (hOs : ¬ O sb) (hlt : sb < w.heap.size) :
    Calls Tryd.prog 26 #[.pointer (some ⟨sb, 0, none⟩), .pointer (some ⟨b, 0, none⟩)] w fun e w' => StepOk w w' sb b O (Cp.step s B) e := by
  obtain ⟨h1, h2, _⟩ := Cp.nxt_one s B hs hB.brng
  exact step_any sb b O s B w (Cp.one s B) h1.rng h2 hOs hlt (one_all sb b O s B w ea E hS hB hs hl hn hOs) (Cp.step s B) (Lib.hid rfl)
end Go.Proofs.YtlbdkcnbgdmpaaaDoor

/- Takes -/
/- An exception and its return, said plainly. No program in sight. -/
namespace Go.Proofs.YtlbdkcnbgdmpaaaDoor
open Go.RowKit
set_option linter.unusedVariables false
namespace Cp
theorem setR_next (s : St) (n v : Int) : (setR s n v).next = s.next := by unfold setR; split <;> rfl
/-- an exception changes nothing but the word that names an address; what goes on leaves what comes next -/
def Exc (s : St) (B : Sb) (e : Int) (s' : St) (B' : Sb) : Prop := (e ≠ -1 → B' = B ∧ ∃ x, s' = { s with bad := x }) ∧ (e = -1 → s'.next = s.next)
theorem exc_same (s : St) (B : Sb) (e : Int) : Exc s B e s B := ⟨fun _ => ⟨rfl, s.bad, rfl⟩, fun _ => rfl⟩
theorem exc_bad (s : St) (B : Sb) (e a : Int) : Exc s B e { s with bad := a } B := ⟨fun _ => ⟨rfl, a, rfl⟩, fun _ => rfl⟩
theorem exc_goes {s s' : St} {B B' : Sb} (h : s'.next = s.next) : Exc s B (-1) s' B' := ⟨fun h' => absurd rfl h', fun _ => h⟩
theorem exc_sumAt (i : Cd.Ins) (s : St) (B : Sb) (a b : Int) : Exc s B (sumAt i s a b).1 (sumAt i s a b).2 B := by
  unfold sumAt
  split
  all_goals first
    | exact exc_goes (setR_next _ _ _)
    | exact exc_goes rfl
    | skip
  · refine exc_goes ?_
    split <;> rfl
  · refine exc_goes ?_
    split <;> rfl
  · split
    · exact exc_same _ _ _
    · exact exc_goes (setR_next _ _ _)
theorem exc_atOnce (i : Cd.Ins) (s : St) (B : Sb) : Exc s B (atOnce i s).1 (atOnce i s).2 B := by
  unfold atOnce
  split
  · exact exc_same _ _ _
  · exact exc_goes (setR_next _ _ _)
theorem exc_load (i : Cd.Ins) (s : St) (B : Sb) : Exc s B (load i s B).1 (load i s B).2.1 (load i s B).2.2 := by
  unfold load
  split
  · exact exc_bad _ _ _ _
  · exact exc_goes (setR_next _ _ _)
theorem exc_store (i : Cd.Ins) (s : St) (B : Sb) : Exc s B (store i s B).1 (store i s B).2.1 (store i s B).2.2 := by
  unfold store
  split
  · exact exc_bad _ _ _ _
  · exact exc_goes rfl
theorem link_next (i : Cd.Ins) (s : St) : (link i s).next = s.next := by
  unfold link
  split
  · exact setR_next _ _ _
  · exact setR_next _ _ _
  · rfl
theorem exc_branch (i : Cd.Ins) (s : St) (B : Sb) (nx : Int) (br : Bool) : Exc s B (branch i s nx br).1 (branch i s nx br).2.1 B := by
  unfold branch
  split
  · exact exc_same _ _ _
  · exact exc_goes (link_next _ _)
theorem exc_from (i : Cd.Ins) (s : St) (B : Sb) : Exc s B (from_ i s).1 (from_ i s).2 B := by
  unfold from_
  repeat' split
  all_goals first
    | exact exc_goes (setR_next _ _ _)
    | exact exc_same _ _ _
theorem exc_to (i : Cd.Ins) (s : St) (B : Sb) : Exc s B (to_ i s).1 (to_ i s).2 B := by
  unfold to_
  repeat' split
  all_goals first
    | exact exc_goes rfl
    | exact exc_same _ _ _
theorem exc_trap (i : Cd.Ins) (s : St) (B : Sb) (hs : s.status / 2 % 2 = 0) : Exc s B (trap i s).1 (trap i s).2 B := by
  unfold trap
  split
  · exact exc_same _ _ _
  · exact exc_same _ _ _
  · exact exc_from i s B
  · exact exc_to i s B
  · rw [if_pos (.inl hs)]
    exact exc_same _ _ _
  · exact exc_same _ _ _
theorem exc_do (i : Cd.Ins) (s : St) (B : Sb) (nx : Int) (br : Bool) (hs : s.status / 2 % 2 = 0) : Exc s B (doIt i s B nx br).e (doIt i s B nx br).s (doIt i s B nx br).b := by
  unfold doIt
  split
  · exact exc_branch i s B nx br
  · exact exc_load i s B
  · exact exc_store i s B
  · exact exc_trap i s B hs
  · split
    · exact exc_atOnce i s B
    · exact exc_sumAt i s B _ _
theorem do_eret (i : Cd.Ins) (s : St) (B : Sb) (nx : Int) (br : Bool) (hs : s.status / 2 % 2 = 0) (h : i.op = 45) : (doIt i s B nx br).e = 10 := by
  obtain ⟨op, S, T, D, imm⟩ := i
  simp only at h
  subst h
  show (trap ⟨45, S, T, D, imm⟩ s).1 = 10
  show (if s.status / 2 % 2 = 0 ∨ s.slot = true then ((10 : Int), s) else _).1 = 10
  rw [if_pos (.inl hs)]
theorem exc_ins (i : Cd.Ins) (s : St) (B : Sb) (hs : s.status / 2 % 2 = 0) : ((ins i s B).1 ≠ -1 → (ins i s B).2.2 = B ∧ ∃ x, (ins i s B).2.1 = { s with bad := x }) ∧ ((ins i s B).1 = -1 → (ins i s B).2.1.pc = s.next) := by
  have h := exc_do i s B (u (s.next + 4)) false hs
  have h45 := do_eret i s B (u (s.next + 4)) false hs
  unfold ins
  simp only
  generalize doIt i s B (u (s.next + 4)) false = o at *
  refine ⟨fun he => ?_, fun he => ?_⟩
  · obtain ⟨h1, x, h2⟩ := h.1 he
    refine ⟨h1, x, ?_⟩
    rw [if_neg (fun hh => he hh.1)]
    exact h2
  · have hop : i.op ≠ 45 := fun e => by
      have := h45 e
      omega
    rw [if_pos ⟨he, hop⟩]
    exact h.2 he
/-- the first step -/
theorem takes_one (s : St) (B : Sb) (hs : Rng s) (hp : s.pc = 64) (hn : s.next = 68) (ht : s.status = 0) :
    ((step s B).1 = -1 → (step s B).2.1.pc = 68) ∧ ((step s B).1 ≠ -1 → (step s B).2.2 = B ∧ ∃ x, (step s B).2.1 = ⟨s.R, s.hi, s.lo, 384, 388, false, 2, if s.slot then 4 * (step s B).1 + 2147483648 else 4 * (step s B).1, if s.slot then 60 else 64, x, s.compare, s.count + 1⟩) := by
  have hd : due s = false := by
    unfold due
    rw [ht]
    exact decide_eq_false (by omega)
  have hone : one s B = ins (Cd.decOf (be B.m s.pc.toNat 4)) s B := by
    unfold one
    rw [if_neg (by rw [hd]; decide), if_neg (by rw [hp]; decide)]
  obtain ⟨h1, h2⟩ := exc_ins (Cd.decOf (be B.m s.pc.toNat 4)) s B (by rw [ht]; decide)
  unfold step
  simp only
  rw [hone]
  generalize ins (Cd.decOf (be B.m s.pc.toNat 4)) s B = o at *
  refine ⟨fun he => ?_, fun he => ?_⟩
  · rw [if_pos he]
    exact (h2 he).trans hn
  · obtain ⟨g1, x, g2⟩ := h1 he
    refine ⟨g1, x, ?_⟩
    rw [if_neg he, g2]
    obtain ⟨R, hi, lo, pc, next, slot, status, cause, epc, bad, compare, count⟩ := s
    simp only at hp hn ht
    subst hp hn ht
    unfold enter
    rw [if_pos (show (0 : Int) / 2 % 2 = 0 by decide)]
    cases slot <;> rfl
/-- the way back -/
theorem dec_eret : Cd.decOf 1107296280 = ⟨45, (Cd.decOf 1107296280).S, (Cd.decOf 1107296280).T, (Cd.decOf 1107296280).D, (Cd.decOf 1107296280).imm⟩ := by kernel_rfl
theorem step_goes {s s1 : St} {B B1 : Sb} (h : one s B = (-1, s1, B1)) : step s B = (-1, { s1 with count := s1.count + 1 }, B1) := by
  unfold step
  rw [h]
  rfl
theorem takes_back (s : St) (B : Sb) (hp : s.pc = 384) (ht : s.status = 2) (hl : s.slot = false) (hm : be B.m 384 4 = 1107296280) :
    step s B = (-1, { s with pc := s.epc, next := u (s.epc + 4), status := 0, count := s.count + 1 }, B) := by
  have hd : due s = false := by
    unfold due
    rw [ht]
    exact decide_eq_false (by omega)
  have hone : one s B = (-1, { s with pc := s.epc, next := u (s.epc + 4), status := s.status - 2 }, B) := by
    unfold one
    rw [if_neg (by rw [hd]; decide), if_neg (by rw [hp]; decide), hp]
    show ins (Cd.decOf (be B.m 384 4)) s B = _
    rw [hm, dec_eret]
    generalize (Cd.decOf 1107296280).S = S
    generalize (Cd.decOf 1107296280).T = T
    generalize (Cd.decOf 1107296280).D = D
    generalize (Cd.decOf 1107296280).imm = imm
    have hdo : doIt ⟨45, S, T, D, imm⟩ s B (u (s.next + 4)) false = ⟨-1, { s with pc := s.epc, next := u (s.epc + 4), status := s.status - 2 }, B, u (s.next + 4), false⟩ := by
      show (⟨(if s.status / 2 % 2 = 0 ∨ s.slot = true then ((10 : Int), s) else (-1, { s with pc := s.epc, next := u (s.epc + 4), status := s.status - 2 })).1, (if s.status / 2 % 2 = 0 ∨ s.slot = true then ((10 : Int), s) else (-1, { s with pc := s.epc, next := u (s.epc + 4), status := s.status - 2 })).2, B, u (s.next + 4), false⟩ : Out) = _
      rw [if_neg (by rw [ht, hl]; decide)]
    unfold ins
    rw [hdo]
    simp only
    rw [if_neg (fun h => h.2 rfl)]
  rw [step_goes hone]
  show ((-1 : Int), ({ s with pc := s.epc, next := u (s.epc + 4), status := s.status - 2, count := s.count + 1 } : St), B) = _
  rw [ht]
  rfl
end Cp
end Go.Proofs.YtlbdkcnbgdmpaaaDoor

/- StEq -/
/- Two states, or two rows of registers, compared where they are the same. -/
namespace Go.Proofs.YtlbdkcnbgdmpaaaDoor
open Go.RowKit Go.Deep
set_option linter.unusedVariables false

theorem mapM_some {α β : Type} (f : α → Option β) (l : List α) (h : ∀ x ∈ l, ∃ y, f x = some y) : ∃ L, l.mapM f = some L := by
  induction l with
  | nil => exact ⟨[], rfl⟩
  | cons a l ih =>
    obtain ⟨y, hy⟩ := h a (List.mem_cons_self ..)
    obtain ⟨L, hL⟩ := ih fun x hx => h x (List.mem_cons_of_mem _ hx)
    exact ⟨y :: L, by rw [List.mapM_cons, hy, hL]; rfl⟩
theorem lits_int (d : Nat) {t : TypeId} {k : IntKind} (ht : Tryd.prog.underlying t = some (.int k)) (v : Int) (hw : (Lit.int k v).wf = true) : ∃ L, Tryd.prog.keyLits (d + 1) t [.int k v] = some L := by
  refine ⟨[.int k v], ?_⟩
  unfold Program.keyLits
  rw [ht]
  simp only
  rw [if_pos (by simpa using hw)]
theorem wf_W {v : Int} (h : Cp.W v) : (Lit.int .u32 v).wf = true := by
  have e1 : IntKind.u32.min = 0 := by decide
  have e2 : IntKind.u32.max = 4294967295 := by decide
  show (decide (IntKind.u32.min ≤ v) && decide (v ≤ IntKind.u32.max)) = true
  rw [e1, e2]
  unfold Cp.W at h
  simp
  omega
theorem lits_u32 (d : Nat) (v : Int) (h : Cp.W v) : ∃ L, Tryd.prog.keyLits (d + 1) 23 [.int .u32 v] = some L := lits_int d Tryd.underlying23 v (wf_W h)
theorem lits_bool (d : Nat) (b : Bool) : ∃ L, Tryd.prog.keyLits (d + 1) 4 [.bool b] = some L := by
  refine ⟨[.bool b], ?_⟩
  unfold Program.keyLits
  rw [Tryd.underlying4]
theorem cellsOf_u32 : Tryd.prog.cellsOf 23 = 1 := by kernel_rfl
theorem cellsOf_int : Tryd.prog.cellsOf 3 = 1 := by kernel_rfl
theorem cellsOf_bool : Tryd.prog.cellsOf 4 = 1 := by kernel_rfl
theorem cellsOf_regs : Tryd.prog.cellsOf 51 = 32 := by kernel_rfl
theorem cellsOf_st : Tryd.prog.cellsOf 53 = 43 := by kernel_rfl
theorem lits_regs (d : Nat) (R : Nat → Int) (h : ∀ k, k < 32 → Cp.W (R k)) : ∃ L, Tryd.prog.keyLits (d + 2) 51 (regs R) = some L := by
  have hm := mapM_some (fun i => Tryd.prog.keyLits (d + 1) 23 (((regs R).drop (i * Tryd.prog.cellsOf 23)).take (Tryd.prog.cellsOf 23))) (List.range 32) (fun i hi => by
    have hi : i < 32 := List.mem_range.1 hi
    have : ((regs R).drop (i * Tryd.prog.cellsOf 23)).take (Tryd.prog.cellsOf 23) = [.int .u32 (R i)] := by
      rw [cellsOf_u32, Nat.mul_one]
      apply List.ext_getElem?
      intro j
      by_cases hj : j = 0
      · subst hj
        simp [regs, hi]
      · rw [List.getElem?_eq_none (by simp; omega), List.getElem?_eq_none (by simp; omega)]
    simp only [this]
    exact lits_u32 d _ (h i hi))
  obtain ⟨L, hL⟩ := hm
  refine ⟨L.flatten, ?_⟩
  unfold Program.keyLits
  rw [Tryd.underlying51]
  simp only
  rw [if_pos (by rw [regs_len, cellsOf_regs]), hL]
  rfl
theorem fields_st : ∃ fs, Tryd.prog.underlying 53 = some (.struct fs) ∧ fs.all (·.name != "_") = true ∧ fs.toList.map (fun f => (f.type, f.offset)) = [(51, 0), (23, 32), (23, 33), (23, 34), (23, 35), (4, 36), (23, 37), (23, 38), (23, 39), (23, 40), (23, 41), (3, 42)] :=
  ⟨_, Tryd.underlying53, by kernel_rfl, by kernel_rfl⟩
theorem take_rest (s : Cp.St) (i : Nat) (v : Value) (h : (restC s)[i]? = some v) : ((stL s).drop (32 + i)).take 1 = [v] := by
  have hlt := (List.getElem?_eq_some_iff.1 h).1
  have : (stL s)[32 + i]? = some v := by
    unfold stL
    rw [List.getElem?_append_right (by rw [regs_len]; omega), regs_len, show 32 + i - 32 = i by omega]
    exact h
  apply List.ext_getElem?
  intro j
  by_cases hj : j = 0
  · subst hj
    rw [List.getElem?_take_of_lt (by omega), List.getElem?_drop]
    exact this
  · rw [List.getElem?_eq_none (by simp; omega), List.getElem?_eq_none (by simp; omega)]
theorem lits_st (d : Nat) (s : Cp.St) (h : Cp.Rng s) : ∃ L, Tryd.prog.keyLits (d + 3) 53 (stL s) = some L := by
  obtain ⟨fs, hu, hn, hf⟩ := fields_st
  have hm := mapM_some (fun f => Tryd.prog.keyLits (d + 2) f.type (((stL s).drop f.offset).take (Tryd.prog.cellsOf f.type))) fs.toList (fun f hf' => by
    have hmem : (f.type, f.offset) ∈ fs.toList.map (fun f => (f.type, f.offset)) := List.mem_map_of_mem hf'
    rw [hf] at hmem
    have hint : (Lit.int .i64 s.count).wf = true := WalkArith.wf_i64 (by have := h.count; omega)
    simp only [List.mem_cons, Prod.mk.injEq, List.not_mem_nil, or_false] at hmem
    rcases hmem with ⟨e1, e2⟩ | ⟨e1, e2⟩ | ⟨e1, e2⟩ | ⟨e1, e2⟩ | ⟨e1, e2⟩ | ⟨e1, e2⟩ | ⟨e1, e2⟩ | ⟨e1, e2⟩ | ⟨e1, e2⟩ | ⟨e1, e2⟩ | ⟨e1, e2⟩ | ⟨e1, e2⟩
    all_goals rw [e1, e2]
    · rw [cellsOf_regs]
      have : ((stL s).drop 0).take 32 = regs s.R := by
        rw [List.drop_zero]
        unfold stL
        rw [List.take_append_of_le_length (by rw [regs_len]; omega), ← regs_len s.R, List.take_length]
      rw [this]
      exact lits_regs d s.R h.R
    · rw [cellsOf_u32, take_rest s 0 _ rfl]; exact lits_u32 _ _ h.hi
    · rw [cellsOf_u32, take_rest s 1 _ rfl]; exact lits_u32 _ _ h.lo
    · rw [cellsOf_u32, take_rest s 2 _ rfl]; exact lits_u32 _ _ h.pc
    · rw [cellsOf_u32, take_rest s 3 _ rfl]; exact lits_u32 _ _ h.next
    · rw [cellsOf_bool, take_rest s 4 _ rfl]; exact lits_bool _ _
    · rw [cellsOf_u32, take_rest s 5 _ rfl]; exact lits_u32 _ _ h.status
    · rw [cellsOf_u32, take_rest s 6 _ rfl]; exact lits_u32 _ _ h.cause
    · rw [cellsOf_u32, take_rest s 7 _ rfl]; exact lits_u32 _ _ h.epc
    · rw [cellsOf_u32, take_rest s 8 _ rfl]; exact lits_u32 _ _ h.bad
    · rw [cellsOf_u32, take_rest s 9 _ rfl]; exact lits_u32 _ _ h.compare
    · rw [cellsOf_int, take_rest s 10 _ rfl]; exact lits_int _ Tryd.underlying3 _ hint)
  obtain ⟨L, hL⟩ := hm
  refine ⟨L.flatten, ?_⟩
  unfold Program.keyLits
  rw [hu]
  simp only
  rw [if_pos ⟨by rw [cellsOf_st]; simp [stL, regs, restC], hn⟩, hL]
  rfl
theorem equal_same {t : TypeId} {m : Nat} (hm : m ≤ 10000) (hk : Tryd.prog.keyTypeAt m t = true) (w : World) (cs : List Value) (hf : (Value.agg cs.toArray).formed Tryd.prog t = true) (hL : ∃ L, Tryd.prog.keyLits 5 t cs = some L) :
    (Op.equal t (.agg cs.toArray) (.agg cs.toArray)).run Tryd.prog w = .ok true w := by
  obtain ⟨L, hL⟩ := hL
  obtain ⟨r, hr, hi⟩ := run_equalIn_deep (P := Tryd.prog) (10000 - m) m t hk w 5 5 _ _ L L hf hf hL hL
  rw [show 10000 - m + m = 10000 by omega] at hr
  rw [hi.2 rfl] at hr
  exact hr
theorem equal_regs (w : World) (R : Nat → Int) (h : ∀ k, k < 32 → Cp.W (R k)) : (Op.equal 51 (.agg (regs R).toArray) (.agg (regs R).toArray)).run Tryd.prog w = .ok true w :=
  equal_same (m := 3) (by omega) (by kernel_rfl) w _ (by
    unfold Value.formed
    rw [Tryd.underlying51, cellsOf_regs]
    simp [regs]) (lits_regs 3 R h)
theorem equal_st (w : World) (s : Cp.St) (h : Cp.Rng s) : (Op.equal 53 (.agg (stL s).toArray) (.agg (stL s).toArray)).run Tryd.prog w = .ok true w :=
  equal_same (m := 4) (by omega) (by kernel_rfl) w _ (by
    unfold Value.formed
    rw [Tryd.underlying53, cellsOf_st]
    simp [stL, regs, restC]) (lits_st 2 s h)
/-- '!=' and '==' of two values of cells that are the same -/
theorem run_bin_agg {P : Program} (o : BinOp) (ho : o = .neq ∨ o = .eql) (t : TypeId) (x y : Operand) (cs : Array Value) (w : World) (hg : P.eqGuardType P.depth t = false) (he : (Op.equal t (.agg cs) (.agg cs)).run P w = .ok true w) :
    (do eqGuard o t x y (.agg cs) (.agg cs); binOp o t (.agg cs) (.agg cs) : Sem Value).run P w = .ok (.bool (if o = .eql then true else false)) w := by
  rcases ho with rfl | rfl
  · have h1 : (eqGuard .neq t x y (.agg cs) (.agg cs)).run P w = .ok () w := by
      simp [eqGuard, Sem.run_bind, run_program, hg]
    simp [Sem.run_bind, h1, binOp, he]
  · have h1 : (eqGuard .eql t x y (.agg cs) (.agg cs)).run P w = .ok () w := by
      simp [eqGuard, Sem.run_bind, run_program, hg]
    simp [Sem.run_bind, h1, binOp, he]
theorem wp_bin_agg {P : Program} {op : Oper} {a : Act} {w : World} {K : Act → World → Prop} {Q : Exit → Act → World → Prop} (o : BinOp) (hoo : o = .neq ∨ o = .eql) (t t' : TypeId) (x y : Operand) (ho : op.op = .binOp o t x y t') (cs : Array Value)
    (hx : a.eval x = .agg cs) (hy : a.eval y = .agg cs) (hg : P.eqGuardType P.depth t = false) (he : (Op.equal t (.agg cs) (.agg cs)).run P w = .ok true w) (h : K (a.put op.dst (.bool (if o = .eql then true else false))) w) : op.wp P a w K Q := by
  have hr := run_bin_agg o hoo t x y cs w hg he
  unfold Oper.wp execOp
  simp only [ho, hx, hy]
  rw [Sem.run_bind, hr]
  exact h
theorem eqg_regs : Tryd.prog.eqGuardType Tryd.prog.depth 51 = false := by kernel_rfl
theorem eqg_st : Tryd.prog.eqGuardType Tryd.prog.depth 53 = false := by kernel_rfl
end Go.Proofs.YtlbdkcnbgdmpaaaDoor

/- RamOn -/
/- A store into the memory of a bus, past the bus. -/
namespace Go.Proofs.YtlbdkcnbgdmpaaaDoor
open Go.RowKit Go.Deep
set_option linter.unusedVariables false

theorem ram_store_on (b r pb pw ph cp : Nat) (ov tv : Value) (O : Nat → Prop) (w : World) (s : Sb) (h : BIn b r pb pw ph cp ov tv O w s) (a n v : Int) (ha : 0 ≤ a) (hv : 0 ≤ v ∧ v < 4294967296) (hc : rightC a n = 0) :
    Calls Tryd.prog 25 #[.pointer (some ⟨r, 0, none⟩), .int .u32 a, .int .i64 n, .int .u32 v] w fun e w' => e = .returned .nilIface ∧ BIn b r pb pw ph cp ov tv O w' { s with m := stTo s.m a.toNat n.toNat v n.toNat } ∧ Keeps O w w' := by
  refine (store_empty r pb pw ph cp 0 s.m a n v w h.ram h.watch ha hv hc).mono fun e w' ⟨he, hR, hk⟩ => ⟨he, ?_, hk.mono (fun x _ hx => hx ▸ h.own.2.2.1)⟩
  have hap := h.ram.apart
  exact {
    bus := h.bus.keep hk h.sep.2.1 (fun g hg => (h.own1 g hg).2.2.1) (fun g hg => (h.own2 g hg).2.2.1)
    ram := hR
    watch := hk.map h.watch (by omega)
    hits := hk.map h.hits (by omega)
    own := h.own
    own1 := h.own1
    own2 := h.own2
    sep := h.sep
    lt := fun x hx => Nat.lt_of_lt_of_le (h.lt x hx) hk.size
    acc := h.acc }
end Go.Proofs.YtlbdkcnbgdmpaaaDoor

/- Bused -/
/- The walk of bused. -/
namespace Go.Proofs.YtlbdkcnbgdmpaaaDoor
open Go.RowKit Go.Deep
set_option linter.unusedVariables false

theorem owns_some {w : World} {base : Nat} {e : TypeId} {size : Nat} {v : Value} {n : Nat} {xs : List Value} (h : w.ownsRow base e size v n xs) (hn : 0 < n) :
    ∃ g cap, v = .slice (some ⟨g, 0, none⟩) n cap ∧ base ≤ g ∧ n ≤ cap ∧ cap ≤ maxLen ∧ ∀ j u, xs[j]? = some u → w.cell? ⟨g, j, none⟩ = some u := by
  have hc := fun g j u => World.ownsRow.cells h (g := g) (j := j) (u := u)
  rcases h.2 with ⟨h3, h4⟩ | ⟨g, cp, cur, h3, h5, h6, h7, h8, _⟩
  · omega
  · refine ⟨g, cp, h3, h5, h7, h8, fun j u hu => ?_⟩
    have := hc g j u (by rw [h3]; rfl) hu
    rwa [Addr.add_lit, Nat.zero_add] at this

end Go.Proofs.YtlbdkcnbgdmpaaaDoor
