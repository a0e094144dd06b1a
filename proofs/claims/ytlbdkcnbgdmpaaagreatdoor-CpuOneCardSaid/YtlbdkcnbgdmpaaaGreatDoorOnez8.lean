import Derived.Test.YtlbdkcnbgdmpaaaGreatDoorOnez5
import Derived.Test.YtlbdkcnbgdmpaaaGreatDoorOnez7
import Derived.Deep.QuietTactic
import Derived.BigQuiet
import Derived.Deep.DeepCutAuto
import Derived.WalkLawsBesides
import Derived.Lib.Hide

/- CpuRng -/
/- The ranges of what a step computes; its count; register 0. No program in sight. -/
namespace Go.Proofs.YtlbdkcnbgdmpaaaGreatDoor
open Go.RowKit
set_option linter.unusedVariables false
namespace Cp
theorem W_mod (x : Int) : W (x % 4294967296) := by unfold W; omega
theorem W_bit (b : Bool) : W (bit b) := by
  unfold bit W
  split <;> omega
theorem W_and (a b : Int) (ha : W a) (hb : W b) : W (bits .and .u32 a b) := by
  have h := Nat.and_lt_two_pow (a.toNat) (n := 32) (y := b.toNat) (by have := hb.1; have := hb.2; omega)
  rw [u32_and a b ha.1 ha.2 hb.1 hb.2]
  unfold W
  omega
theorem W_or (a b : Int) (ha : W a) (hb : W b) : W (bits .or .u32 a b) := by
  have h := Nat.or_lt_two_pow (n := 32) (x := a.toNat) (y := b.toNat) (by have := ha.1; have := ha.2; omega) (by have := hb.1; have := hb.2; omega)
  rw [u32_or a b ha.1 ha.2 hb.1 hb.2]
  unfold W
  omega
theorem W_xor (a b : Int) (ha : W a) (hb : W b) : W (bits .xor .u32 a b) := by
  have h := Nat.xor_lt_two_pow (n := 32) (x := a.toNat) (y := b.toNat) (by have := ha.1; have := ha.2; omega) (by have := hb.1; have := hb.2; omega)
  rw [u32_xor a b ha.1 ha.2 hb.1 hb.2]
  unfold W
  omega
theorem W_shift (k a n : Int) (ha : W a) : W (Wd.shift k a n) := by
  unfold Wd.shift
  split
  · exact W_mod _
  · split
    · unfold Wd.shr
      have hq : (0 : Int) ≤ 2 ^ (n % 32).toNat := Int.le_of_lt (Int.pow_pos (by decide))
      exact ⟨Int.ediv_nonneg ha.1 hq, Int.lt_of_le_of_lt (Int.ediv_le_self _ ha.1) ha.2⟩
    · split
      · exact W_mod _
      · exact ha
theorem W_wide (v n : Int) (s : Bool) (hv : W v) : W (Wd.wide v n s) := by
  unfold Wd.wide
  split
  · exact hv
  · split
    · exact W_mod _
    · have hq := Wd.p2 n.toNat (by omega)
      have h1 := Int.emod_nonneg v (b := 2 ^ n.toNat) (by omega)
      have h2 := Int.emod_lt_of_pos v (b := 2 ^ n.toNat) (by omega)
      unfold W
      omega
theorem W_quo (a b : Int) (s : Bool) (ha : W a) (hb : W b) : W (Wd.quo a b s) := by
  unfold Wd.quo
  split
  · exact W_0
  · split
    · exact W_mod _
    · exact ⟨Int.ediv_nonneg ha.1 hb.1, Int.lt_of_le_of_lt (Int.ediv_le_self _ ha.1) ha.2⟩
theorem W_rst (a b : Int) (s : Bool) (ha : W a) (hb : W b) : W (Wd.rst a b s) := by
  unfold Wd.rst
  split
  · exact W_0
  · rename_i hz
    split
    · exact W_mod _
    · have hb1 := hb.1
      have h1 := Int.emod_nonneg a hz
      have h2 := Int.emod_lt_of_pos a (b := b) (by omega)
      exact ⟨h1, Int.lt_trans h2 hb.2⟩
theorem W_sumV (op : Nat) (a b imm : Int) (ha : W a) (hb : W b) : W (sumV op a b imm) := by
  unfold sumV
  split
  all_goals first
    | exact W_shift _ _ _ hb
    | exact W_u _
    | exact W_and _ _ ha hb
    | exact W_or _ _ ha hb
    | exact W_xor _ _ ha hb
    | exact W_xor _ _ (by unfold W; omega) (W_or _ _ ha hb)
    | exact W_bit _
    | exact W_0
theorem W_atV (op : Nat) (a n imm : Int) (ha : W a) (hi : W imm) : W (atV op a n imm) := by
  unfold atV
  split
  all_goals first
    | exact W_u _
    | exact W_and _ _ ha hi
    | exact W_or _ _ ha hi
    | exact W_xor _ _ ha hi
    | exact W_bit _
/-- what an instruction keeps of a state -/
structure Nxt (s s' : St) : Prop where
  rng : Rng s'
  count : s'.count = s.count
  r0 : s'.R 0 = s.R 0
theorem nxt_refl {s : St} (h : Rng s) : Nxt s s := ⟨h, rfl, rfl⟩
theorem nxt_setR {s : St} (h : Rng s) (n v : Int) (hn : 0 ≤ n) (hv : W v) : Nxt s (setR s n v) := by
  unfold setR
  split
  · exact nxt_refl h
  · rename_i h0
    refine ⟨⟨fun k hk => ?_, h.hi, h.lo, h.pc, h.next, h.status, h.cause, h.epc, h.bad, h.compare, h.count⟩, rfl, ?_⟩
    · show W (if k = n.toNat then v else s.R k)
      split
      · exact hv
      · exact h.R k hk
    · show (if 0 = n.toNat then v else s.R 0) = s.R 0
      rw [if_neg (by omega)]
def EOk (e : Int) : Prop := e = -1 ∨ (0 ≤ e ∧ e < 32)
theorem nxt_sumAt (i : Cd.Ins) (s : St) (a b : Int) (h : Rng s) (hi : Cd.Ok i) (ha : W a) (hb : W b) : Nxt s (sumAt i s a b).2 ∧ EOk (sumAt i s a b).1 := by
  have hD := hi.D.1
  unfold sumAt
  split
  · exact ⟨nxt_setR h _ _ hD h.hi, .inl rfl⟩
  · exact ⟨⟨⟨h.R, ha, h.lo, h.pc, h.next, h.status, h.cause, h.epc, h.bad, h.compare, h.count⟩, rfl, rfl⟩, .inl rfl⟩
  · exact ⟨nxt_setR h _ _ hD h.lo, .inl rfl⟩
  · exact ⟨⟨⟨h.R, h.hi, ha, h.pc, h.next, h.status, h.cause, h.epc, h.bad, h.compare, h.count⟩, rfl, rfl⟩, .inl rfl⟩
  · exact ⟨⟨⟨h.R, W_mod _, W_mod _, h.pc, h.next, h.status, h.cause, h.epc, h.bad, h.compare, h.count⟩, rfl, rfl⟩, .inl rfl⟩
  · exact ⟨⟨⟨h.R, W_mod _, W_mod _, h.pc, h.next, h.status, h.cause, h.epc, h.bad, h.compare, h.count⟩, rfl, rfl⟩, .inl rfl⟩
  · refine ⟨?_, .inl rfl⟩
    split
    · exact nxt_refl h
    · exact ⟨⟨h.R, W_rst _ _ _ ha hb, W_quo _ _ _ ha hb, h.pc, h.next, h.status, h.cause, h.epc, h.bad, h.compare, h.count⟩, rfl, rfl⟩
  · refine ⟨?_, .inl rfl⟩
    split
    · exact nxt_refl h
    · exact ⟨⟨h.R, W_rst _ _ _ ha hb, W_quo _ _ _ ha hb, h.pc, h.next, h.status, h.cause, h.epc, h.bad, h.compare, h.count⟩, rfl, rfl⟩
  · split
    · exact ⟨nxt_refl h, .inr ⟨by omega, by omega⟩⟩
    · exact ⟨nxt_setR h _ _ hD (W_sumV _ _ _ _ ha hb), .inl rfl⟩
theorem W_R {s : St} (h : Rng s) (n : Int) (hn : 0 ≤ n ∧ n < 32) : W (s.R n.toNat) := h.R _ (by omega)
theorem nxt_sum (i : Cd.Ins) (s : St) (h : Rng s) (hi : Cd.Ok i) : Nxt s (sum i s).2 ∧ EOk (sum i s).1 := nxt_sumAt i s _ _ h hi (W_R h _ hi.S) (W_R h _ hi.T)
theorem nxt_atOnce (i : Cd.Ins) (s : St) (h : Rng s) (hi : Cd.Ok i) : Nxt s (atOnce i s).2 ∧ EOk (atOnce i s).1 := by
  unfold atOnce
  split
  · exact ⟨nxt_refl h, .inr ⟨by omega, by omega⟩⟩
  · exact ⟨nxt_setR h _ _ hi.T.1 (W_atV _ _ _ _ (W_R h _ hi.S) ⟨hi.imm.1, by have := hi.imm.2; omega⟩), .inl rfl⟩
/-- the ranges of what a bus holds -/
structure BRng (B : Sb) : Prop where
  m : ∀ i, i < 16384 → 0 ≤ B.m i ∧ B.m i < 256
  lamp : W B.lamp
theorem stC_ok {a n : Int} (h : stC a n = 0) (ha : a < 16384) : (n = 1 ∨ n = 2 ∨ n = 4) ∧ a % n = 0 := by
  rw [stC_ram ha] at h
  exact ⟨(rightC_ok h).1, (rightC_ok h).2.1⟩
theorem W_ldV (a n c : Int) (sg : Bool) (B : Sb) (h : BRng B) (ha : 0 ≤ a) : W (ldV a n c sg B) := by
  unfold ldV
  split
  · exact W_0
  · rename_i hc
    split
    · rename_i hr
      obtain ⟨h1, h2⟩ := stC_ok (by simpa using hc) hr
      refine W_wide _ _ _ ?_
      have := be_rng B.m a.toNat n.toNat (fun i hi => h.m _ (by rcases h1 with rfl | rfl | rfl <;> omega))
      rcases h1 with rfl | rfl | rfl
      · have h3 := this.2; simp at h3; exact ⟨this.1, by simp; omega⟩
      · have h3 := this.2; simp at h3; exact ⟨this.1, by simp; omega⟩
      · have h3 := this.2; simp at h3; exact ⟨this.1, by simp; omega⟩
    · unfold devV
      split
      · exact W_mod _
      · split
        · exact h.lamp
        · exact W_0
theorem W_addr (i : Cd.Ins) (s : St) : W (addr i s) := W_u _
theorem nxt_bad {s : St} (h : Rng s) (a : Int) (ha : W a) : Nxt s { s with bad := a } := ⟨⟨h.R, h.hi, h.lo, h.pc, h.next, h.status, h.cause, h.epc, ha, h.compare, h.count⟩, rfl, rfl⟩
/-- a bus grows by one at most -/
def Near (B B' : Sb) : Prop := B'.l.length ≤ B.l.length + 1 ∧ B'.tn ≤ B.tn + 1
theorem near_refl (B : Sb) : Near B B := ⟨by omega, by omega⟩
theorem near_stepL (a n c : Int) (B : Sb) : Near B (stepL a n c B) := by
  unfold stepL
  split
  · exact near_refl B
  · split
    · exact near_refl B
    · exact ⟨Nat.le_succ _, Nat.le_refl _⟩
theorem near_stepS (a n v c : Int) (B : Sb) : Near B (stepS a n v c B) := by
  unfold stepS
  split
  · exact near_refl B
  · split
    · exact near_refl B
    · refine ⟨?_, Nat.le_refl _⟩
      have := (outL_byteVals a v B.l).2
      show (outL a v B.l).length ≤ _
      rw [← this]
      unfold outN
      split <;> omega
theorem nxt_load (i : Cd.Ins) (s : St) (B : Sb) (h : Rng s) (hi : Cd.Ok i) (hB : BRng B) : Nxt s (load i s B).2.1 ∧ EOk (load i s B).1 ∧ Near B (load i s B).2.2 := by
  unfold load
  split
  · exact ⟨nxt_bad h _ (W_addr i s), .inr ⟨by omega, by omega⟩, near_refl B⟩
  · exact ⟨nxt_setR h _ _ hi.T.1 (W_ldV _ _ _ _ B hB (W_addr i s).1), .inl rfl, near_stepL _ _ _ B⟩
theorem nxt_store (i : Cd.Ins) (s : St) (B : Sb) (h : Rng s) (hi : Cd.Ok i) : Nxt s (store i s B).2.1 ∧ EOk (store i s B).1 ∧ Near B (store i s B).2.2 := by
  unfold store
  split
  · exact ⟨nxt_bad h _ (W_addr i s), .inr ⟨by omega, by omega⟩, near_refl B⟩
  · exact ⟨nxt_refl h, .inl rfl, near_stepS _ _ _ _ B⟩
theorem nxt_link (i : Cd.Ins) (s : St) (h : Rng s) (hi : Cd.Ok i) : Nxt s (link i s) := by
  unfold link
  split
  · exact nxt_setR h _ _ (by omega) (W_u _)
  · exact nxt_setR h _ _ hi.D.1 (W_u _)
  · exact nxt_refl h
theorem W_near (i : Cd.Ins) (s : St) : W (near i s) := W_u _
theorem W_far (i : Cd.Ins) (s : St) (hi : Cd.Ok i) : W (far i s) := by
  have h1 := W_u (s.pc + 4)
  have h2 := hi.imm
  unfold far
  unfold W at h1 ⊢
  omega
theorem W_to (i : Cd.Ins) (s : St) (h : Rng s) (hi : Cd.Ok i) (nx : Int) (hn : W nx) : W ((Cp.to i s).getD nx) := by
  unfold Cp.to
  split
  · exact W_far i s hi
  · exact W_far i s hi
  · split
    · exact W_near i s
    · exact hn
  · split
    · exact hn
    · exact W_near i s
  · split
    · exact W_near i s
    · exact hn
  · split
    · exact hn
    · exact W_near i s
  · exact W_R h _ hi.S
theorem nxt_branch (i : Cd.Ins) (s : St) (nx : Int) (br : Bool) (h : Rng s) (hi : Cd.Ok i) (hn : W nx) : Nxt s (branch i s nx br).2.1 ∧ EOk (branch i s nx br).1 ∧ W (branch i s nx br).2.2.1 := by
  unfold branch
  split
  · exact ⟨nxt_refl h, .inr ⟨by omega, by omega⟩, hn⟩
  · exact ⟨nxt_link i s h hi, .inl rfl, W_to i s h hi nx hn⟩
theorem nxt_from (i : Cd.Ins) (s : St) (h : Rng s) (hi : Cd.Ok i) : Nxt s (from_ i s).2 ∧ EOk (from_ i s).1 := by
  have hT := hi.T.1
  unfold from_
  repeat' split
  · exact ⟨nxt_setR h _ _ hT h.bad, .inl rfl⟩
  · exact ⟨nxt_setR h _ _ hT (W_u _), .inl rfl⟩
  · exact ⟨nxt_setR h _ _ hT h.compare, .inl rfl⟩
  · exact ⟨nxt_setR h _ _ hT h.status, .inl rfl⟩
  · exact ⟨nxt_setR h _ _ hT h.cause, .inl rfl⟩
  · exact ⟨nxt_setR h _ _ hT h.epc, .inl rfl⟩
  · exact ⟨nxt_refl h, .inr ⟨by omega, by omega⟩⟩
theorem nxt_to (i : Cd.Ins) (s : St) (h : Rng s) (hi : Cd.Ok i) : Nxt s (to_ i s).2 ∧ EOk (to_ i s).1 := by
  have hT := W_R h _ hi.T
  unfold to_
  repeat' split
  · exact ⟨⟨⟨h.R, h.hi, h.lo, h.pc, h.next, h.status, h.cause, h.epc, h.bad, hT, h.count⟩, rfl, rfl⟩, .inl rfl⟩
  · exact ⟨⟨⟨h.R, h.hi, h.lo, h.pc, h.next, by unfold W; show 0 ≤ s.R i.T.toNat % 4 ∧ s.R i.T.toNat % 4 < 4294967296; omega, h.cause, h.epc, h.bad, h.compare, h.count⟩, rfl, rfl⟩, .inl rfl⟩
  · exact ⟨⟨⟨h.R, h.hi, h.lo, h.pc, h.next, h.status, h.cause, hT, h.bad, h.compare, h.count⟩, rfl, rfl⟩, .inl rfl⟩
  · exact ⟨nxt_refl h, .inr ⟨by omega, by omega⟩⟩
theorem nxt_trap (i : Cd.Ins) (s : St) (h : Rng s) (hi : Cd.Ok i) : Nxt s (trap i s).2 ∧ EOk (trap i s).1 := by
  unfold trap
  split
  · exact ⟨nxt_refl h, .inr ⟨by omega, by omega⟩⟩
  · exact ⟨nxt_refl h, .inr ⟨by omega, by omega⟩⟩
  · exact nxt_from i s h hi
  · exact nxt_to i s h hi
  · split
    · exact ⟨nxt_refl h, .inr ⟨by omega, by omega⟩⟩
    · rename_i hs
      have h2 := h.status
      have h3 : ¬ s.status / 2 % 2 = 0 := fun e => hs (.inl e)
      exact ⟨⟨⟨h.R, h.hi, h.lo, h.epc, W_u _, by unfold W at h2 ⊢; show 0 ≤ s.status - 2 ∧ s.status - 2 < 4294967296; omega, h.cause, h.epc, h.bad, h.compare, h.count⟩, rfl, rfl⟩, .inl rfl⟩
  · exact ⟨nxt_refl h, .inr ⟨by omega, by omega⟩⟩
theorem nxt_do (i : Cd.Ins) (s : St) (B : Sb) (nx : Int) (br : Bool) (h : Rng s) (hi : Cd.Ok i) (hB : BRng B) (hn : W nx) : Nxt s (doIt i s B nx br).s ∧ EOk (doIt i s B nx br).e ∧ W (doIt i s B nx br).nx ∧ Near B (doIt i s B nx br).b := by
  unfold doIt
  split
  · obtain ⟨h1, h2, h3⟩ := nxt_branch i s nx br h hi hn
    exact ⟨h1, h2, h3, near_refl B⟩
  · obtain ⟨h1, h2, h3⟩ := nxt_load i s B h hi hB
    exact ⟨h1, h2, hn, h3⟩
  · obtain ⟨h1, h2, h3⟩ := nxt_store i s B h hi
    exact ⟨h1, h2, hn, h3⟩
  · obtain ⟨h1, h2⟩ := nxt_trap i s h hi
    exact ⟨h1, h2, hn, near_refl B⟩
  · split
    · obtain ⟨h1, h2⟩ := nxt_atOnce i s h hi
      exact ⟨h1, h2, hn, near_refl B⟩
    · obtain ⟨h1, h2⟩ := nxt_sum i s h hi
      exact ⟨h1, h2, hn, near_refl B⟩
theorem nxt_ins (i : Cd.Ins) (s : St) (B : Sb) (h : Rng s) (hi : Cd.Ok i) (hB : BRng B) : Nxt s (ins i s B).2.1 ∧ EOk (ins i s B).1 ∧ Near B (ins i s B).2.2 := by
  obtain ⟨h1, h2, h3, h4⟩ := nxt_do i s B (u (s.next + 4)) false h hi hB (W_u _)
  unfold ins
  refine ⟨?_, h2, h4⟩
  simp only
  split
  · have g := h1.rng
    exact ⟨⟨g.R, g.hi, g.lo, g.next, h3, g.status, g.cause, g.epc, g.bad, g.compare, g.count⟩, h1.count, h1.r0⟩
  · exact h1
theorem nxt_one (s : St) (B : Sb) (h : Rng s) (hB : BRng B) : Nxt s (one s B).2.1 ∧ EOk (one s B).1 ∧ Near B (one s B).2.2 := by
  unfold one
  split
  · exact ⟨nxt_refl h, .inr ⟨by omega, by omega⟩, near_refl B⟩
  · split
    · exact ⟨nxt_bad h _ h.pc, .inr ⟨by omega, by omega⟩, near_refl B⟩
    · exact nxt_ins _ s B h (Cd.ok_dec _) hB
theorem W_384 : W 384 := by unfold W; omega
theorem W_388 : W 388 := by unfold W; omega
theorem nxt_enter (s : St) (c : Int) (h : Rng s) (hc : 0 ≤ c ∧ c < 32) : Nxt s (enter s c) := by
  have h2 := h.status
  have h3 := h.cause
  have h4 := h.pc
  unfold enter
  split
  · refine ⟨⟨h.R, h.hi, h.lo, W_384, W_388, ?_, ?_, ?_, h.bad, h.compare, h.count⟩, rfl, rfl⟩
    · unfold W at h2 ⊢
      show 0 ≤ s.status + 2 ∧ s.status + 2 < 4294967296
      omega
    · show W (if s.slot then 4 * c + 2147483648 else 4 * c)
      split <;> (unfold W; omega)
    · show W (if s.slot then u (s.pc - 4) else s.pc)
      split
      · exact W_u _
      · exact h.pc
  · refine ⟨⟨h.R, h.hi, h.lo, W_384, W_388, h.status, ?_, h.epc, h.bad, h.compare, h.count⟩, rfl, rfl⟩
    show W (s.cause - s.cause / 4 % 32 * 4 + 4 * c)
    unfold W at h3 ⊢
    omega
theorem nxt_step (s : St) (B : Sb) (h : Rng s) (hB : BRng B) (hc : s.count < 4611686018427387903) : Rng (step s B).2.1 ∧ (step s B).2.1.count = s.count + 1 ∧ (step s B).2.1.R 0 = s.R 0 ∧ EOk (step s B).1 ∧ Near B (step s B).2.2 := by
  obtain ⟨h1, h2, h3⟩ := nxt_one s B h hB
  unfold step
  refine ⟨?_, ?_, ?_, h2, h3⟩
  all_goals simp only
  all_goals generalize one s B = o at h1 h2
  · have h4 := h1.count
    have h5 := h.count
    split
    · have g := h1.rng
      exact ⟨g.R, g.hi, g.lo, g.pc, g.next, g.status, g.cause, g.epc, g.bad, g.compare, by show 0 ≤ o.2.1.count + 1 ∧ o.2.1.count + 1 < 4611686018427387904; omega⟩
    · rename_i hne
      have k := nxt_enter o.2.1 o.1 h1.rng (h2.resolve_left hne)
      have g := k.rng
      have h6 := k.count
      exact ⟨g.R, g.hi, g.lo, g.pc, g.next, g.status, g.cause, g.epc, g.bad, g.compare, by show 0 ≤ (enter o.2.1 o.1).count + 1 ∧ (enter o.2.1 o.1).count + 1 < 4611686018427387904; omega⟩
  · have h4 := h1.count
    split
    · omega
    · rename_i hne
      have k := (nxt_enter o.2.1 o.1 h1.rng (h2.resolve_left hne)).count
      omega
  · have h4 := h1.r0
    split
    · exact h4
    · rename_i hne
      exact (nxt_enter o.2.1 o.1 h1.rng (h2.resolve_left hne)).r0.trans h4
end Cp
end Go.Proofs.YtlbdkcnbgdmpaaaGreatDoor

/- Rbits -/
/- Bits by a table of four, said plainly. No program in sight. -/
namespace Go.Proofs.YtlbdkcnbgdmpaaaGreatDoor
set_option linter.unusedVariables false
/-- bit by bit, the lowest first: what 00, 01, 10, 11 become -/
def bitF (t : Nat) : Nat → Nat → Nat → Nat
  | 0, _, _ => 0
  | n + 1, a, b => t / 2 ^ (2 * (a % 2) + b % 2) % 2 + 2 * bitF t n (a / 2) (b / 2)
theorem bitF_test (t : Nat) : ∀ n a b i, (bitF t n a b).testBit i = (decide (i < n) && decide (t / 2 ^ (2 * (a / 2 ^ i % 2) + b / 2 ^ i % 2) % 2 = 1))
  | 0, a, b, i => by simp [bitF]
  | n + 1, a, b, 0 => by
    unfold bitF
    rw [Nat.testBit_zero]
    generalize bitF t n (a / 2) (b / 2) = g
    simp only [Nat.pow_zero, Nat.div_one, Nat.zero_lt_succ, decide_true, Bool.true_and]
    generalize t / 2 ^ (2 * (a % 2) + b % 2) = c
    rw [show (c % 2 + 2 * g) % 2 = c % 2 by omega]
  | n + 1, a, b, i + 1 => by
    unfold bitF
    rw [Nat.testBit_succ]
    have ih := bitF_test t n (a / 2) (b / 2) i
    generalize bitF t n (a / 2) (b / 2) = g at *
    generalize t / 2 ^ (2 * (a % 2) + b % 2) = c
    rw [show (c % 2 + 2 * g) / 2 = g by omega, ih, Nat.div_div_eq_div_mul, Nat.div_div_eq_div_mul, show 2 * 2 ^ i = 2 ^ (i + 1) by rw [Nat.pow_succ, Nat.mul_comm]]
    simp only [Nat.add_lt_add_iff_right]
theorem test_high {a i : Nat} (ha : a < 4294967296) (h : ¬ i < 32) : a.testBit i = false := by
  have h2 : 2 ^ 32 ≤ 2 ^ i := Nat.pow_le_pow_right (by omega) (by omega)
  exact Nat.testBit_lt_two_pow (by omega)
theorem bit_of (a i : Nat) : a.testBit i = decide (a / 2 ^ i % 2 = 1) := Nat.testBit_eq_decide_div_mod_eq
theorem bitF_eq (t : Nat) (f : Nat → Nat → Nat) (g : Bool → Bool → Bool) (hf : ∀ a b i, i < 32 → (f a b).testBit i = g (a.testBit i) (b.testBit i)) (hlt : ∀ a b, a < 4294967296 → b < 4294967296 → f a b < 4294967296)
    (ht : ∀ x y : Fin 2, decide (t / 2 ^ (2 * x.val + y.val) % 2 = 1) = g (decide (x.val = 1)) (decide (y.val = 1))) (a b : Nat) (ha : a < 4294967296) (hb : b < 4294967296) : bitF t 32 a b = f a b := by
  apply Nat.eq_of_testBit_eq
  intro i
  rw [bitF_test]
  by_cases hi : i < 32
  · rw [hf a b i hi, bit_of a, bit_of b, decide_eq_true hi, Bool.true_and]
    exact ht ⟨a / 2 ^ i % 2, Nat.mod_lt _ (by omega)⟩ ⟨b / 2 ^ i % 2, Nat.mod_lt _ (by omega)⟩
  · rw [test_high (hlt a b ha hb) hi, decide_eq_false hi, Bool.false_and]
theorem bitF_and (a b : Nat) (ha : a < 4294967296) (hb : b < 4294967296) : bitF 8 32 a b = a &&& b :=
  bitF_eq 8 (· &&& ·) (· && ·) (fun a b i _ => Nat.testBit_and a b i) (fun a b _ hb => Nat.and_lt_two_pow (n := 32) a hb) (by decide) a b ha hb
theorem bitF_or (a b : Nat) (ha : a < 4294967296) (hb : b < 4294967296) : bitF 14 32 a b = a ||| b :=
  bitF_eq 14 (· ||| ·) (· || ·) (fun a b i _ => Nat.testBit_or a b i) (fun a b ha hb => Nat.or_lt_two_pow (n := 32) ha hb) (by decide) a b ha hb
theorem bitF_xor (a b : Nat) (ha : a < 4294967296) (hb : b < 4294967296) : bitF 6 32 a b = a ^^^ b :=
  bitF_eq 6 (· ^^^ ·) (fun x y => x ^^ y) (fun a b i _ => Nat.testBit_xor a b i) (fun a b ha hb => Nat.xor_lt_two_pow (n := 32) ha hb) (by decide) a b ha hb
end Go.Proofs.YtlbdkcnbgdmpaaaGreatDoor

/- Rput -/
/- What the reference's operations compute, said plainly: the same as Cp's. No program in sight. -/
namespace Go.Proofs.YtlbdkcnbgdmpaaaGreatDoor
open Go.RowKit
set_option linter.unusedVariables false
theorem bitF_nor (a b : Nat) (ha : a < 4294967296) (hb : b < 4294967296) : bitF 1 32 a b = 4294967295 ^^^ (a ||| b) :=
  bitF_eq 1 (fun a b => 4294967295 ^^^ (a ||| b)) (fun x y => !(x || y)) (fun a b i hi => by
    rw [Nat.testBit_xor, Nat.testBit_or, show (4294967295 : Nat) = 2 ^ 32 - 1 from rfl, Nat.testBit_two_pow_sub_one, decide_eq_true hi, Bool.true_xor]) (fun a b ha hb => Nat.xor_lt_two_pow (n := 32) (by decide) (Nat.or_lt_two_pow (n := 32) ha hb)) (by decide) a b ha hb
namespace Cp
/-- a register written, register 0 too -/
def putR (s : St) (n v : Int) : St := { s with R := fun k => if k = n.toNat then v else s.R k }
def zer (s : St) : St := putR s 0 0
theorem zer_same {s : St} (h : s.R 0 = 0) : zer s = s := by
  unfold zer putR
  have : (fun k => if k = (0 : Int).toNat then (0 : Int) else s.R k) = s.R := by
    funext k
    split
    · rename_i h0
      subst h0
      exact h.symm
    · rfl
  rw [this]
theorem zer_put {s : St} (n v : Int) (h : s.R 0 = 0) (hn : 0 ≤ n) : zer (putR s n v) = setR s n v := by
  by_cases h0 : n = 0
  · subst h0
    rw [setR, if_pos rfl]
    refine Eq.trans ?_ (zer_same h)
    unfold zer putR
    simp only
    congr 1
    funext k
    split
    · rfl
    · rfl
  · rw [setR, if_neg h0]
    unfold zer putR
    simp only
    congr 1
    funext k
    split
    · rename_i hk
      rw [if_neg (by subst hk; show ¬ (0 : Int).toNat = n.toNat; omega)]
      subst hk
      exact h.symm
    · rfl
/-- what an operation of the reference leaves, where Cp's leaves r -/
def Ends (r : Int × St) (s' : St) : Prop := if r.1 = -1 then zer s' = r.2 else s' = r.2
theorem ends_put {s : St} (n v : Int) (h : s.R 0 = 0) (hn : 0 ≤ n) : Ends (-1, setR s n v) (putR s n v) := by
  unfold Ends
  rw [if_pos rfl]
  exact zer_put n v h hn
theorem ends_same {s : St} (h : s.R 0 = 0) : Ends (-1, s) s := by
  unfold Ends
  rw [if_pos rfl]
  exact zer_same h
theorem ends_bad {s : St} (e : Int) (h : e ≠ -1) : Ends (e, s) s := by
  unfold Ends
  rw [if_neg h]
/-- bits by a table, of words -/
def bitT (t : Nat) (a b : Int) : Int := bitF t 32 a.toNat b.toNat
theorem bitT_and (a b : Int) (ha : W a) (hb : W b) : bitT 8 a b = bits .and .u32 a b := by
  rw [u32_and a b ha.1 ha.2 hb.1 hb.2]
  unfold bitT
  rw [bitF_and _ _ (by have := ha.1; have := ha.2; omega) (by have := hb.1; have := hb.2; omega)]
theorem bitT_or (a b : Int) (ha : W a) (hb : W b) : bitT 14 a b = bits .or .u32 a b := by
  rw [u32_or a b ha.1 ha.2 hb.1 hb.2]
  unfold bitT
  rw [bitF_or _ _ (by have := ha.1; have := ha.2; omega) (by have := hb.1; have := hb.2; omega)]
theorem bitT_xor (a b : Int) (ha : W a) (hb : W b) : bitT 6 a b = bits .xor .u32 a b := by
  rw [u32_xor a b ha.1 ha.2 hb.1 hb.2]
  unfold bitT
  rw [bitF_xor _ _ (by have := ha.1; have := ha.2; omega) (by have := hb.1; have := hb.2; omega)]
theorem bitT_nor (a b : Int) (ha : W a) (hb : W b) : bitT 1 a b = bits .xor .u32 4294967295 (bits .or .u32 a b) := by
  have h := W_or a b ha hb
  rw [u32_xor _ _ (by decide) (by decide) h.1 h.2, u32_or a b ha.1 ha.2 hb.1 hb.2]
  unfold bitT
  rw [bitF_nor _ _ (by have := ha.1; have := ha.2; omega) (by have := hb.1; have := hb.2; omega)]
  rfl
/-- a sum by its kind: add sub and or xor nor shl shr sar slt sltu -/
def sumK (k : Nat) (a b : Int) : Int :=
  match k with
  | 0 => u (a + b)
  | 1 => u (a - b)
  | 2 => bits .and .u32 a b
  | 3 => bits .or .u32 a b
  | 4 => bits .xor .u32 a b
  | 5 => bits .xor .u32 4294967295 (bits .or .u32 a b)
  | 6 => Wd.shift 60 a b
  | 7 => Wd.shift 62 a b
  | 8 => Wd.shift 126 a b
  | 9 => bit (Wd.less a b true)
  | _ => bit (Wd.less a b false)
def kindK (op : Nat) : Nat :=
  match op with
  | 19 => 0
  | 20 => 0
  | 35 => 0
  | 36 => 0
  | 21 => 1
  | 22 => 1
  | 23 => 2
  | 39 => 2
  | 24 => 3
  | 40 => 3
  | 25 => 4
  | 41 => 4
  | 26 => 5
  | 27 => 9
  | 37 => 9
  | 28 => 10
  | 38 => 10
  | 1 => 6
  | 4 => 6
  | 2 => 7
  | 5 => 7
  | _ => 8
end Cp
end Go.Proofs.YtlbdkcnbgdmpaaaGreatDoor

/- RbitsW -/
/- The reference's processor: the walk of bits. -/
namespace Go.Proofs.YtlbdkcnbgdmpaaaGreatDoor
open Go.RowKit Go.Deep
set_option linter.unusedVariables false

theorem pw33 : ∀ k : Fin 33, 1 ≤ 2 ^ k.val ∧ 2 ^ k.val ≤ 4294967296 ∧ (k.val < 32 → 2 ^ k.val ≤ 2147483648) := by decide +kernel
theorem bitF_lt (t : Nat) : ∀ n a b, bitF t n a b < 2 ^ n
  | 0, a, b => by simp [bitF]
  | n + 1, a, b => by
    have ih := bitF_lt t n (a / 2) (b / 2)
    unfold bitF
    rw [Nat.pow_succ]
    omega
theorem bitF_round (t i o p x y R : Nat) (hi : i < 32) (h : o + p * bitF t (32 - i) x y = R) : o + p * (t / 2 ^ (2 * (x % 2) + y % 2) % 2) + 2 * p * bitF t (32 - (i + 1)) (x / 2) (y / 2) = R := by
  rw [show 32 - i = 32 - (i + 1) + 1 by omega] at h
  unfold bitF at h
  rw [← h, Nat.mul_add, Nat.add_assoc, ← Nat.mul_assoc p 2, Nat.mul_comm p 2]
theorem pow_more (j t : Nat) : t / 2 ^ j / 2 = t / 2 ^ (j + 1) := by rw [Nat.div_div_eq_div_mul, Nat.pow_succ]
set_option maxHeartbeats 400000 in
theorem bits_any (a b : Int) (t : Nat) (ht : t < 16) (w : World) (ha : 0 ≤ a ∧ a < 4294967296) (hb : 0 ≤ b ∧ b < 4294967296) :
    Calls Tryz.prog 105 #[.int .u32 a, .int .u32 b, .int .i64 t] w fun e w' => e = .returned (.int .u32 (Cp.bitT t a b)) ∧ w = w' := by
  obtain ⟨a, rfl⟩ := Int.eq_ofNat_of_zero_le ha.1
  obtain ⟨b, rfl⟩ := Int.eq_ofNat_of_zero_le hb.1
  have HR : Hid (Cp.bitT t a b = (bitF t 32 a b : Nat)) := Lib.hid rfl
  have HL := bitF_lt t 32 a b
  have htt := Lib.hid ht
  clear ht
  have hRR : ∃ R, R = bitF t 32 a b := ⟨_, rfl⟩
  obtain ⟨R, hRR⟩ := hRR
  rw [← hRR] at HR HL
  have HZ : Hid (0 + 1 * bitF t (32 - 0) a b = R) := Lib.hid (by rw [hRR, Nat.zero_add, Nat.one_mul])
  have HLH := Lib.hid HL
  clear hRR HL
  go_enter Tryz.func105, Tryz.ntmps105
  go_wp2_with fail
  go_loop [7, 8, 9, 10, 11, 12, 13, 14] (fun s7 s8 s9 s10 s11 _ _ _ => ∃ i o p x y : Nat, i ≤ 32 ∧ s7 = .int .i64 o ∧ s8 = .int .i64 p ∧ s9 = .int .i64 x ∧ s10 = .int .i64 y ∧ s11 = .int .i64 i ∧ 2 ^ i = p ∧ o < p ∧ x < 4294967296 ∧ y < 4294967296 ∧ Hid (o + p * bitF t (32 - i) x y = R)) (fun _ _ _ _ s11 _ _ _ => 32 - (intOf s11).toNat)
  case atStart => exact ⟨0, 0, 1, a, b, by omega, rfl, rfl, rfl, rfl, rfl, rfl, by omega, by omega, by omega, HZ⟩
  case round =>
    obtain ⟨i, o, p, x, y, hi, rfl, rfl, rfl, rfl, rfl, hp, ho, hx, hy, hR⟩ := hrel
    have hpp := pw33 ⟨i, by omega⟩
    simp only at hpp
    rw [hp] at hpp
    have HP := Lib.hid hp
    clear hp
    by_cases hlt : i < 32
    · have hN := Lib.hid (bitF_round t i o p x y R hlt hR.out)
      have hk : ∃ k, k = 2 * (x % 2) + y % 2 ∧ k ≤ 3 := ⟨_, rfl, by omega⟩
      obtain ⟨k, hk, hk3⟩ := hk
      have HK := Lib.hid hk
      rw [← hk] at hN
      have hxy : 0 ≤ (x : Int) % 2 ∧ (x : Int) % 2 ≤ 1 ∧ 0 ≤ (y : Int) % 2 ∧ (y : Int) % 2 ≤ 1 := by omega
      have hxi : 0 ≤ (x : Int) ∧ (x : Int) < 4294967296 := by omega
      have hyi : 0 ≤ (y : Int) ∧ (y : Int) < 4294967296 := by omega
      have hii : 0 ≤ (i : Int) ∧ (i : Int) < 32 := by omega
      have hpi : 1 ≤ (p : Int) ∧ (p : Int) ≤ 2147483648 := by omega
      have hoi : 0 ≤ (o : Int) ∧ (o : Int) < p := by omega
      have HH := Lib.hid (And.intro hx (And.intro hy (And.intro ho hpp)))
      clear ha hb hk HR hx hy ho hpp hlt hi
      go_upto_region 9 with fail
      rw [show (2 * ((x : Int) % 2) + (y : Int) % 2) = (k : Int) by have := HK.out; omega]
      clear hxy
      have HT0 : Hid (t / 2 ^ 0 = t) := Lib.hid (by simp)
      have hki : 0 ≤ (k : Int) ∧ (k : Int) ≤ 3 := by omega
      go_wp2_with fail
      go_loop [13, 14] (fun s13 s14 => ∃ j c : Nat, j ≤ k ∧ s14 = .int .i64 j ∧ s13 = .int .i64 c ∧ Hid (t / 2 ^ j = c) ∧ c < 16) (fun _ s14 => k - (intOf s14).toNat)
      case atStart => exact ⟨0, t, Nat.zero_le _, rfl, rfl, HT0, htt.out⟩
      case round =>
        obtain ⟨j, c, hj, rfl, rfl, hc, hc16⟩ := hrel
        have hci : 0 ≤ (c : Int) ∧ (c : Int) < 16 := by omega
        have hji : 0 ≤ (j : Int) ∧ (j : Int) ≤ k := by omega
        clear hc16
        by_cases hjk : j < k
        · have hjk2 : (j : Int) < k := by omega
          clear hjk
          go_wp2_with fail
          go_round
          case rel => exact ⟨j + 1, c / 2, by omega, by go_num, by first | rfl | go_num, Lib.hid (by rw [← hc.out, pow_more]), by omega⟩
          case measure => simp [intOf]; omega
        · have hjk2 : j = k := by omega
          subst hjk2
          have hcc := hN.out
          rw [hc.out] at hcc
          have hc2 : c % 2 = 0 ∨ c % 2 = 1 := by omega
          have hci2 : (c : Int) % 2 = ((c % 2 : Nat) : Int) := by omega
          clear hN hc
          generalize hd : c % 2 = d at *
          have HD := Lib.hid hd
          have HC := Lib.hid hcc
          have HPP : Hid (2 ^ (i + 1) = 2 * p) := Lib.hid (by rw [Nat.pow_succ, HP.out, Nat.mul_comm])
          clear hd hcc HP
          have hb5 := HH.out
          rcases hc2 with rfl | rfl
          · have HC2 : Hid (o + 2 * p * bitF t (32 - (i + 1)) (x / 2) (y / 2) = R) := Lib.hid (by have := HC.out; rwa [Nat.mul_zero, Nat.add_zero] at this)
            clear hb5
            go_wp2_with fail
            go_round
            case rel =>
              have hb5 := HH.out
              exact ⟨i + 1, o, 2 * p, x / 2, y / 2, by omega, rfl, by go_num, by go_num, by go_num, by go_num, HPP.out, by omega, by omega, by omega, HC2⟩
            case measure => simp [intOf]; omega
          · have HC2 : Hid (o + p + 2 * p * bitF t (32 - (i + 1)) (x / 2) (y / 2) = R) := Lib.hid (by have := HC.out; rwa [Nat.mul_one] at this)
            clear hb5
            go_wp2_with fail
            go_round
            case rel =>
              have hb5 := HH.out
              exact ⟨i + 1, o + p, 2 * p, x / 2, y / 2, by omega, by go_num, by go_num, by go_num, by go_num, by go_num, HPP.out, by omega, by omega, by omega, HC2⟩
            case measure => simp [intOf]; omega
    · have h32 : i = 32 := by omega
      subst h32
      have hRR := hR.out
      rw [show 32 - 32 = 0 from rfl, show bitF t 0 x y = 0 from rfl, Nat.mul_zero, Nat.add_zero] at hRR
      subst hRR
      have HLI : 0 ≤ (o : Int) ∧ (o : Int) < 4294967296 := by have := HLH.out; omega
      clear ho hpp hx hy hlt
      go_wp2_with fail
      go_ret
      refine ⟨ret_i ?_, rfl⟩
      rw [HR.out]
end Go.Proofs.YtlbdkcnbgdmpaaaGreatDoor

/- Rcpu2 -/
/- The reference's processor: the walks of SizeOf, kindOf. -/
namespace Go.Proofs.YtlbdkcnbgdmpaaaGreatDoor
open Go.RowKit Go.Deep
set_option linter.unusedVariables false

/-- the kind of a sum, as the reference has it -/
def kindT (op : Nat) : List UInt8 :=
  match op with
  | 19 => [97, 100, 100]
  | 20 => [97, 100, 100]
  | 35 => [97, 100, 100]
  | 36 => [97, 100, 100]
  | 21 => [115, 117, 98]
  | 22 => [115, 117, 98]
  | 23 => [97, 110, 100]
  | 39 => [97, 110, 100]
  | 24 => [111, 114]
  | 40 => [111, 114]
  | 25 => [120, 111, 114]
  | 41 => [120, 111, 114]
  | 26 => [110, 111, 114]
  | 27 => [115, 108, 116]
  | 37 => [115, 108, 116]
  | 28 => [115, 108, 116, 117]
  | 38 => [115, 108, 116, 117]
  | 1 => [115, 104, 108]
  | 4 => [115, 104, 108]
  | 2 => [115, 104, 114]
  | 5 => [115, 104, 114]
  | _ => [115, 97, 114]
theorem sizeOf_any (op : Nat) (h : 46 ≤ op ∧ op ≤ 53) (w : World) :
    Calls Tryz.prog 95 #[.int .i64 op] w fun e w' => e = .returned (.int .i64 (if Cp.isSg op then - Cp.size op else Cp.size op)) ∧ w = w' := by
  have : op = 46 ∨ op = 47 ∨ op = 48 ∨ op = 49 ∨ op = 50 ∨ op = 51 ∨ op = 52 ∨ op = 53 := by omega
  rcases this with rfl | rfl | rfl | rfl | rfl | rfl | rfl | rfl
  all_goals
    go_enter Tryz.func95, Tryz.ntmps95
    go_wp2_with fail
    go_ret
    exact ⟨rfl, rfl⟩
theorem kindOf2_any (op : Nat) (h : (1 ≤ op ∧ op ≤ 6) ∨ (19 ≤ op ∧ op ≤ 28) ∨ (35 ≤ op ∧ op ≤ 42)) (w : World) :
    Calls Tryz.prog 101 #[.int .i64 op] w fun e w' => e = .returned (.string ⟨(kindT op).toArray⟩) ∧ w = w' := by
  have : op = 1 ∨ op = 2 ∨ op = 3 ∨ op = 4 ∨ op = 5 ∨ op = 6 ∨ op = 19 ∨ op = 20 ∨ op = 21 ∨ op = 22 ∨ op = 23 ∨ op = 24 ∨ op = 25 ∨ op = 26 ∨ op = 27 ∨ op = 28 ∨ op = 35 ∨ op = 36 ∨ op = 37 ∨ op = 38 ∨ op = 39 ∨ op = 40 ∨ op = 41 ∨ op = 42 := by omega
  rcases this with rfl | rfl | rfl | rfl | rfl | rfl | rfl | rfl | rfl | rfl | rfl | rfl | rfl | rfl | rfl | rfl | rfl | rfl | rfl | rfl | rfl | rfl | rfl | rfl
  all_goals
    go_enter Tryz.func101, Tryz.ntmps101
    go_wp2_with fail
    go_ret
    exact ⟨rfl, rfl⟩
end Go.Proofs.YtlbdkcnbgdmpaaaGreatDoor

/- SumsOf -/
/- The walks of the reference's IsSigned, LessOf, MulOf, DivOf. -/
namespace Go.Proofs.YtlbdkcnbgdmpaaaGreatDoor
open Go.RowKit
set_option linter.unusedVariables false

set_option maxHeartbeats 400000 in
theorem isSigned_any (n : Int) (w : World) :
    Calls Tryz.prog 102 #[.int .i64 n] w fun e w' => e = .returned (.bool (Wd.isS n)) ∧ w = w' := by
  go_enter Tryz.func102, Tryz.ntmps102
  go_wp2
  all_goals go_ret
  all_goals exact ⟨ret_bool (by simp [Wd.isS]; try omega), rfl⟩

set_option maxHeartbeats 400000 in
theorem lessOf_any (a b : Int) (s : Bool) (w : World) (ha : 0 ≤ a ∧ a < 4294967296) (hb : 0 ≤ b ∧ b < 4294967296) :
    Calls Tryz.prog 107 #[.int .u32 a, .int .u32 b, .bool s] w fun e w' => e = .returned (.bool (Wd.less a b s)) ∧ w = w' := by
  cases s
  · go_enter Tryz.func107, Tryz.ntmps107
    go_wp2
    go_ret
    exact ⟨rfl, rfl⟩
  · go_enter Tryz.func107, Tryz.ntmps107
    go_wp2_with fail
    refine (signed_any _ _ ha).mono ?_
    rintro e w' ⟨rfl, rfl⟩
    go_wp2_with fail
    refine (signed_any _ _ hb).mono ?_
    rintro e w' ⟨rfl, rfl⟩
    go_wp2_with fail
    go_ret
    exact ⟨rfl, rfl⟩

set_option maxHeartbeats 1000000 in
theorem mulOf_any (a b : Int) (s : Bool) (w : World) (ha : 0 ≤ a ∧ a < 4294967296)  (hb : 0 ≤ b ∧ b < 4294967296) :
    Calls Tryz.prog 98 #[.int .u32 a, .int .u32 b, .bool s] w fun e w' => e = .returned (.tuple #[.int .u32 (Wd.hi a b s), .int .u32 (Wd.lo a b s)]) ∧ w = w' := by
  go_enter Tryz.func98, Tryz.ntmps98
  go_upto_if 19 with fail
  go_cut [8, 9, 10] (fun s8 s9 s10 wx => ∃ X Y M, s8 = .int .i64 X ∧ s9 = .int .i64 Y ∧ s10 = .bool M ∧ Wd.Fac (Wd.pr a b s) X Y M ∧ wx = w)
  case first =>
    cases s
    · go_wp2_with fail
      go_meet
      exact ⟨a, b, false, rfl, rfl, rfl, Wd.fac_f a b ha hb, rfl⟩
    · go_wp2_with fail
      refine (signed_any _ _ ha).mono ?_
      have h1 := Wd.sg_bd a ha.1 ha.2
      have h2 := Wd.sg_bd b hb.1 hb.2
      rintro e w' ⟨rfl, rfl⟩
      go_wp2_with fail
      refine (signed_any _ _ hb).mono ?_
      rintro e w' ⟨rfl, rfl⟩
      generalize hx : Wd.sg a = x at *
      generalize hy : Wd.sg b = y at *
      have Hx := Lib.hid hx
      have Hy := Lib.hid hy
      clear hx hy
      by_cases hx0 : x < 0
      all_goals by_cases hy0 : y < 0
      all_goals first | have hx1 : decide (x < 0) = true := by simpa using hx0 | have hx1 : decide (x < 0) = false := by simpa using hx0
      all_goals first | have hy1 : decide (y < 0) = true := by simpa using hy0 | have hy1 : decide (y < 0) = false := by simpa using hy0
      all_goals go_wp2_with fail
      all_goals go_meet
      case rel => exact ⟨_, _, _, rfl, rfl, rfl, Wd.fac_nn a b x y Hx.out Hy.out h1 h2 (by omega) (by omega), rfl⟩
      case rel => exact ⟨_, _, _, rfl, rfl, rfl, Wd.fac_np a b x y Hx.out Hy.out h1 h2 (by omega) (by omega), rfl⟩
      case rel => exact ⟨_, _, _, rfl, rfl, rfl, Wd.fac_pn a b x y Hx.out Hy.out h1 h2 (by omega) (by omega), rfl⟩
      case rel => exact ⟨_, _, _, rfl, rfl, rfl, Wd.fac_pp a b x y Hx.out Hy.out h1 h2 (by omega) (by omega), rfl⟩
  case rest =>
    obtain ⟨X, Y, M, rfl, rfl, rfl, hF, rfl⟩ := hcut
    have H : Hid (Wd.hi a b s = Wd.pr a b s / 4294967296 % 4294967296 ∧ Wd.lo a b s = Wd.pr a b s % 4294967296) := Lib.hid ⟨rfl, rfl⟩
    generalize Wd.pr a b s = p at *
    obtain ⟨x1, x2, y1, y2, hp⟩ := hF
    have hb1 := Wd.mul_bd X (Y % 65536) 4294967295 65535 x1 x2 (by omega) (by omega)
    have hb2 := Wd.mul_bd X (Y / 65536) 4294967295 65535 x1 x2 (by omega) (by omega)
    have hs := Wd.split X Y
    have HS : Hid (p = if M then -(X * (Y % 65536) + 65536 * (X * (Y / 65536))) else X * (Y % 65536) + 65536 * (X * (Y / 65536))) := by rw [hs]; exact Lib.hid hp
    clear hs hp
    go_upto_region 14 with fail
    generalize X * (Y % 65536) = P at *
    generalize X * (Y / 65536) = Q at *
    cases M
    · have HT : Hid (p = P + 65536 * Q) := HS
      clear HS
      go_wp2_with fail
      go_ret2
      have HU := HT.out
      have HV := H.out
      refine ⟨ret_int_int ?_ ?_, rfl⟩
      · rw [HV.1]; omega
      · rw [HV.2]; omega
    · have HT : Hid (p = -(P + 65536 * Q)) := HS
      clear HS
      go_upto_region 17 with fail
      have e : (P % 4294967296 + Q % 65536 * 65536) % 4294967296 + 4294967296 * (P / 4294967296 + Q / 65536 + (P % 4294967296 + Q % 65536 * 65536) / 4294967296) = P + 65536 * Q := by omega
      have l1 : 0 ≤ (P % 4294967296 + Q % 65536 * 65536) % 4294967296 := by omega
      have l2 : (P % 4294967296 + Q % 65536 * 65536) % 4294967296 < 4294967296 := by omega
      have l3 : 0 ≤ P / 4294967296 + Q / 65536 + (P % 4294967296 + Q % 65536 * 65536) / 4294967296 := by omega
      have l4 : P / 4294967296 + Q / 65536 + (P % 4294967296 + Q % 65536 * 65536) / 4294967296 < 4294967296 := by omega
      generalize (P % 4294967296 + Q % 65536 * 65536) % 4294967296 = l at *
      generalize P / 4294967296 + Q / 65536 + (P % 4294967296 + Q % 65536 * 65536) / 4294967296 = h at *
      rw [← e] at HT
      clear e hb1 hb2
      by_cases h1 : 0 < h
      all_goals by_cases h2 : 0 < l
      all_goals go_wp2_with fail
      all_goals
        go_ret2
        have HU := HT.out
        have HV := H.out
        refine ⟨ret_int_int ?_ ?_, rfl⟩
        all_goals try simp only [beq_iff_eq, beq_eq_false_iff_ne, ne_eq] at *
        · rw [HV.1]; omega
        · rw [HV.2]; omega

theorem quiet_same {P : Program} {f : FuncId} {args : Array Value} {w : World} {n : Nat} {v : Value}
    (h : Calls P f args (w.drewN n) fun e w' => e = .returned v ∧ w.drewN n = w') : Calls P f args (w.drewN n) fun e w'' => e = .returned v ∧ ∃ m, w'' = w.drewN m :=
  h.mono fun _ _ ⟨he, hm⟩ => ⟨he, n, hm.symm⟩
theorem i64_rng (x : Int) : -9223372036854775808 ≤ IntKind.i64.wrap x ∧ IntKind.i64.wrap x ≤ 9223372036854775807 := by
  rw [IntKind.wrap_i64]; omega
theorem sg_tmod (x y : Int) (hx : -2147483648 ≤ x ∧ x ≤ 2147483647) : -2147483648 ≤ x.tmod y ∧ x.tmod y ≤ 2147483647 := by
  have h1 : (x.tmod y).natAbs ≤ x.natAbs := by rw [Int.natAbs_tmod]; exact Nat.mod_le _ _
  have h2 : 0 ≤ x → 0 ≤ x.tmod y := fun h => Int.tmod_nonneg y h
  have h3 : 0 ≤ -x → 0 ≤ (-x).tmod y := fun h => Int.tmod_nonneg y h
  rw [Int.neg_tmod] at h3
  omega
set_option maxHeartbeats 400000 in
theorem divOf_any (a b : Int) (s : Bool) (w : World) (ha : 0 ≤ a ∧ a < 4294967296) (hb : 0 ≤ b ∧ b < 4294967296) :
    Calls Tryz.prog 99 #[.int .u32 a, .int .u32 b, .bool s] w fun e w' => e = .returned (.tuple #[.int .u32 (Wd.quo a b s), .int .u32 (Wd.rst a b s), .bool (b != 0)]) ∧ ∃ n, w' = w.drewN n := by
  by_cases hz : b = 0
  · subst hz
    go_enter Tryz.func99, Tryz.ntmps99
    go_wp2
    go_ret3
    exact ⟨ret_iib (Wd.quo_0 a s).symm (Wd.rst_0 a s).symm rfl, 0, rfl⟩
  · have hz0 : (b == 0) = false := by simpa using hz
    have hz2 : (b != 0) = true := by simpa using hz
    have HZ := Lib.hid hz2
    clear hz2
    cases s
    · have hq : 0 ≤ a / b ∧ a / b ≤ a := IntWalk.tdiv_le a b ha.1 (by omega)
      have hr : 0 ≤ a % b ∧ a % b < b := ⟨Int.emod_nonneg _ hz, Int.emod_lt_of_pos _ (by omega)⟩
      go_enter Tryz.func99, Tryz.ntmps99
      go_wp2_with fail
      go_quiet ((go_at_call 42; refine quiet_same (word_any _ _ ?_); first | omega | exact i64_rng _))
      go_wp2
      go_ret3
      refine ⟨ret_iib ?_ ?_ HZ.out.symm, _, rfl⟩
      · rw [Wd.quo_u a b hz]; first | omega | (rw [IntWalk.i64_quo _ _ (by omega)]; omega)
      · rw [Wd.rst_u a b hz]; first | omega | (rw [IntWalk.rem_in _ _ (by omega)]; omega)
    · have hb0 : ¬ (Wd.sg b = 0) := by unfold Wd.sg; split <;> omega
      have E := Lib.hid (sg_tdiv (Wd.sg a) (Wd.sg b) (Wd.sg_bd a ha.1 ha.2))
      have F := Lib.hid (sg_tmod (Wd.sg a) (Wd.sg b) (Wd.sg_bd a ha.1 ha.2))
      go_enter Tryz.func99, Tryz.ntmps99
      go_wp2_with fail
      refine (signed_any _ _ ha).mono ?_
      rintro e w' ⟨rfl, rfl⟩
      go_wp2_with fail
      refine (signed_any _ _ hb).mono ?_
      rintro e w' ⟨rfl, rfl⟩
      go_wp2_with fail
      refine (word_any _ _ (by unfold wrap64; omega)).mono ?_
      rintro e w' ⟨rfl, rfl⟩
      go_wp2_with fail
      refine (signed_any _ _ ha).mono ?_
      rintro e w' ⟨rfl, rfl⟩
      go_wp2_with fail
      refine (signed_any _ _ hb).mono ?_
      rintro e w' ⟨rfl, rfl⟩
      go_wp2_with fail
      refine (word_any _ _ (by have F' := F.out; omega)).mono ?_
      rintro e w' ⟨rfl, rfl⟩
      go_wp2_with fail
      go_ret3
      have E' := E.out
      refine ⟨ret_iib ?_ ?_ HZ.out.symm, 0, rfl⟩
      · rw [Wd.quo_s a b hz, IntWalk.wrap64_in _ (by omega)]
      · rw [Wd.rst_s a b hz]

end Go.Proofs.YtlbdkcnbgdmpaaaGreatDoor
