import Derived.Test.YtlbdkcnbgdmpaaaGreatDoorOnez4
import Derived.Test.YtlbdkcnbgdmpaaaGreatDoorOnez0
import Derived.Test.YtlbdkcnbgdmpaaaGreatDoorProg
import Derived.WalkSpells
import Derived.WalkLawsBesides
import Derived.BigQuiet
import Derived.Laws.BitsAllLaws
import Derived.Lib.Hide

/- Inv -/
/- A bus, and the reference's bus, as one state each: what they hold, which blocks are theirs; loads and stores. -/
namespace Go.Proofs.YtlbdkcnbgdmpaaaGreatDoor
open Go.RowKit Go.Deep
set_option linter.unusedVariables false

/-- what a bus holds: bytes, output, lamp, accesses -/
structure Sb where
  m : Nat → Int
  l : List UInt8
  lamp : Int
  tn : Nat
  tr : List Value

/-- the number of an access' error -/
def stC (a n : Int) : Nat := if a < 16384 then rightC a n else devC a n
def errOf (ea : Nat → Addr) (c : Nat) : Value := if c = 0 then .nilIface else errV ea c
/-- behind a store -/
def stepS (a n v c : Int) (s : Sb) : Sb :=
  if stC a n ≠ 0 then s else if a < 16384 then { s with m := stTo s.m a.toNat n.toNat v n.toNat }
  else { s with l := outL a v s.l, lamp := lampV a v s.lamp, tn := s.tn + 1, tr := s.tr ++ accC c true a v }
/-- what a load answers, and what is behind it -/
def ldV (a n c : Int) (sg : Bool) (s : Sb) : Int := if stC a n ≠ 0 then 0 else if a < 16384 then Wd.wide (be s.m a.toNat n.toNat) (8 * n) sg else devV a c s.lamp
def stepL (a n c : Int) (s : Sb) : Sb := if stC a n ≠ 0 then s else if a < 16384 then s else { s with tn := s.tn + 1, tr := s.tr ++ accC c false a (devV a c s.lamp) }

/-- so many accesses, each of four cells -/
def AccRow (tr : List Value) (n : Nat) : Prop := tr.length = n * 4 ∧ ∀ i, i < n → ∃ c s a v, tr[i * 4]? = some (.int .i64 c) ∧ tr[i * 4 + 1]? = some (.bool s) ∧ tr[i * 4 + 2]? = some (.int .u32 a) ∧ tr[i * 4 + 3]? = some (.int .u32 v)
theorem AccRow.add {tr : List Value} {n : Nat} (h : AccRow tr n) (c : Int) (s : Bool) (a v : Int) : AccRow (tr ++ accC c s a v) (n + 1) := by
  obtain ⟨h1, h2⟩ := h
  refine ⟨by simp [h1, accC]; omega, fun i hi => ?_⟩
  by_cases hin : i < n
  · obtain ⟨c', s', a', v', e1, e2, e3, e4⟩ := h2 i hin
    refine ⟨c', s', a', v', ?_, ?_, ?_, ?_⟩ <;> (rw [List.getElem?_append_left (by omega)]; assumption)
  · obtain rfl : i = n := by omega
    refine ⟨c, s, a, v, ?_, ?_, ?_, ?_⟩ <;> (rw [List.getElem?_append_right (by omega), h1])
    · rw [show i * 4 - i * 4 = 0 by omega]; rfl
    · rw [show i * 4 + 1 - i * 4 = 1 by omega]; rfl
    · rw [show i * 4 + 2 - i * 4 = 2 by omega]; rfl
    · rw [show i * 4 + 3 - i * 4 = 3 by omega]; rfl
theorem AccRow.one {tr : List Value} {n : Nat} (h : AccRow tr n) : oneCells tr := by
  intro u hu
  obtain ⟨j, hj⟩ := List.getElem?_of_mem hu
  have hl : j < tr.length := (List.getElem?_eq_some_iff.1 hj).1
  rw [h.1] at hl
  obtain ⟨c, s, a, v, e1, e2, e3, e4⟩ := h.2 (j / 4) (by omega)
  have : j = j / 4 * 4 ∨ j = j / 4 * 4 + 1 ∨ j = j / 4 * 4 + 2 ∨ j = j / 4 * 4 + 3 := by omega
  rcases this with e | e | e | e
  · rw [e, e1] at hj; injection hj with hj; rw [← hj]; rfl
  · rw [e, e2] at hj; injection hj with hj; rw [← hj]; rfl
  · rw [e, e3] at hj; injection hj with hj; rw [← hj]; rfl
  · rw [e, e4] at hj; injection hj with hj; rw [← hj]; rfl

structure BIn (b r pb pw ph cp : Nat) (ov tv : Value) (O : Nat → Prop) (w : World) (s : Sb) : Prop where
  bus : BusAt w b r ov s.l.length (byteVals s.l) s.lamp tv s.tn s.tr
  ram : RamAt w r pb pw ph cp s.m
  watch : w.heap[pw]? = some (.map #[] 0)
  hits : w.heap[ph]? = some (.map #[] 0)
  own : O b ∧ O r ∧ O pb ∧ O pw ∧ O ph
  own1 : ∀ k, ov.ownBlock = some k → O k ∧ k ≠ r ∧ k ≠ pb ∧ k ≠ pw ∧ k ≠ ph
  own2 : ∀ k, tv.ownBlock = some k → O k ∧ k ≠ r ∧ k ≠ pb ∧ k ≠ pw ∧ k ≠ ph
  sep : b ≠ r ∧ b ≠ pb ∧ b ≠ pw ∧ b ≠ ph
  lt : ∀ k, O k → k < w.heap.size
  acc : AccRow s.tr s.tn
/-- A BUS AT b, with what it holds; its blocks are among O -/
def BInv (b : Nat) (O : Nat → Prop) (w : World) (s : Sb) : Prop := ∃ r pb pw ph cp ov tv, BIn b r pb pw ph cp ov tv O w s
structure RIn (b q wb tb hb : Nat) (tv : Value) (O : Nat → Prop) (w : World) (s : Sb) : Prop where
  bus : RBusAt w b q s.l s.lamp tv s.tn s.tr
  ram : RefAt w q wb tb hb s.m (fun _ => false) (fun _ => false)
  own : O b ∧ O q ∧ O wb ∧ O tb ∧ O hb
  own2 : ∀ k, tv.ownBlock = some k → O k ∧ k ≠ q ∧ k ≠ wb ∧ k ≠ tb ∧ k ≠ hb
  sep : b ≠ q ∧ b ≠ wb ∧ b ≠ tb ∧ b ≠ hb
  lt : ∀ k, O k → k < w.heap.size
  acc : AccRow s.tr s.tn
/-- THE REFERENCE's BUS AT b -/
def RInv (b : Nat) (O : Nat → Prop) (w : World) (s : Sb) : Prop := ∃ q wb tb hb tv, RIn b q wb tb hb tv O w s

theorem BIn.keep {b r pb pw ph cp : Nat} {ov tv : Value} {O S : Nat → Prop} {w w' : World} {s : Sb} (h : BIn b r pb pw ph cp ov tv O w s) (k : Keeps S w w') (d : ∀ k, O k → ¬ S k) : BIn b r pb pw ph cp ov tv O w' s where
  bus := h.bus.keep k (d _ h.own.1) (fun g hg => d _ (h.own1 g hg).1) (fun g hg => d _ (h.own2 g hg).1)
  ram := h.ram.keep k (d _ h.own.2.1) (d _ h.own.2.2.1)
  watch := k.map h.watch (d _ h.own.2.2.2.1)
  hits := k.map h.hits (d _ h.own.2.2.2.2)
  own := h.own
  own1 := h.own1
  own2 := h.own2
  sep := h.sep
  lt := fun x hx => Nat.lt_of_lt_of_le (h.lt x hx) k.size
  acc := h.acc
theorem BInv.keep {b : Nat} {O S : Nat → Prop} {w w' : World} {s : Sb} (h : BInv b O w s) (k : Keeps S w w') (d : ∀ k, O k → ¬ S k) : BInv b O w' s := by
  obtain ⟨r, pb, pw, ph, cp, ov, tv, h⟩ := h
  exact ⟨r, pb, pw, ph, cp, ov, tv, h.keep k d⟩
theorem BInv.lt {b : Nat} {O : Nat → Prop} {w : World} {s : Sb} (h : BInv b O w s) : ∀ k, O k → k < w.heap.size := by
  obtain ⟨r, pb, pw, ph, cp, ov, tv, h⟩ := h
  exact h.lt
theorem RIn.keep {b q wb tb hb : Nat} {tv : Value} {O S : Nat → Prop} {w w' : World} {s : Sb} (h : RIn b q wb tb hb tv O w s) (k : Keeps S w w') (d : ∀ k, O k → ¬ S k) : RIn b q wb tb hb tv O w' s where
  bus := h.bus.keep k (d _ h.own.1) (fun g hg => d _ (h.own2 g hg).1)
  ram := h.ram.keep k ⟨d _ h.own.2.1, d _ h.own.2.2.1, d _ h.own.2.2.2.1, d _ h.own.2.2.2.2⟩
  own := h.own
  own2 := h.own2
  sep := h.sep
  lt := fun x hx => Nat.lt_of_lt_of_le (h.lt x hx) k.size
  acc := h.acc
theorem RInv.keep {b : Nat} {O S : Nat → Prop} {w w' : World} {s : Sb} (h : RInv b O w s) (k : Keeps S w w') (d : ∀ k, O k → ¬ S k) : RInv b O w' s := by
  obtain ⟨q, wb, tb, hb, tv, h⟩ := h
  exact ⟨q, wb, tb, hb, tv, h.keep k d⟩
theorem RInv.lt {b : Nat} {O : Nat → Prop} {w : World} {s : Sb} (h : RInv b O w s) : ∀ k, O k → k < w.heap.size := by
  obtain ⟨q, wb, tb, hb, tv, h⟩ := h
  exact h.lt

/-- the blocks behind: those that were, and new ones -/
def Grew (O O' : Nat → Prop) (w : World) : Prop := ∀ k, O' k → O k ∨ w.heap.size ≤ k
theorem Grew.refl (O : Nat → Prop) (w : World) : Grew O O w := fun _ h => .inl h

/-- a device of the bus was reached -/
theorem BIn.dev {b r pb pw ph cp : Nat} {ov tv ov' tv' : Value} {O : Nat → Prop} {w w' : World} {s s' : Sb} (h : BIn b r pb pw ph cp ov tv O w s) (B : BusAt w' b r ov' s'.l.length (byteVals s'.l) s'.lamp tv' s'.tn s'.tr) (hm : s'.m = s.m)
    (m1 : Moved w ov ov') (m2 : Moved w tv tv') (k : Keeps (busS b ov tv) w w') (ha : AccRow s'.tr s'.tn) :
    ∃ O', BInv b O' w' s' ∧ Keeps O w w' ∧ Grew O O' w := by
  have hbl : ∀ x, O x → x < w.heap.size := h.lt
  obtain ⟨o1, o2, o3, o4, o5⟩ := h.own
  obtain ⟨s1, s2, s3, s4⟩ := h.sep
  have hO : ∀ x, busS b ov tv x → O x := by
    intro x hx
    rcases hx with rfl | hx | hx
    · exact o1
    · exact (h.own1 x hx).1
    · exact (h.own2 x hx).1
  have hno : ∀ x, x ≠ b → (∀ y, ov.ownBlock = some y ∨ tv.ownBlock = some y → y ≠ x) → ¬ busS b ov tv x := by
    intro x h1 h2 h3
    rcases h3 with h3 | h3 | h3
    · exact h1 h3
    · exact h2 x (.inl h3) rfl
    · exact h2 x (.inr h3) rfl
  have hy : ∀ y, ov.ownBlock = some y ∨ tv.ownBlock = some y → y ≠ r ∧ y ≠ pb ∧ y ≠ pw ∧ y ≠ ph := by
    intro y hy
    rcases hy with hy | hy
    · exact (h.own1 y hy).2
    · exact (h.own2 y hy).2
  have hmv : ∀ {v v' : Value}, Moved w v v' → (∀ k, v.ownBlock = some k → O k ∧ k ≠ r ∧ k ≠ pb ∧ k ≠ pw ∧ k ≠ ph) → ∀ k, v'.ownBlock = some k → (O k ∨ w.heap.size ≤ k ∧ k < w'.heap.size → True) ∧ ((O k ∨ w.heap.size ≤ k) ∧ k ≠ r ∧ k ≠ pb ∧ k ≠ pw ∧ k ≠ ph) := by
    intro v v' hv hv2 k hk
    refine ⟨fun _ => trivial, ?_⟩
    rcases hv with hv | hv
    · have := hv2 k (hv ▸ hk)
      exact ⟨.inl this.1, this.2⟩
    · have h1 := hv k hk
      have h2 := hbl _ o2
      have h3 := hbl _ o3
      have h4 := hbl _ o4
      have h5 := hbl _ o5
      exact ⟨.inr h1, by omega, by omega, by omega, by omega⟩
  have hsz := k.size
  refine ⟨fun x => (O x ∨ w.heap.size ≤ x) ∧ x < w'.heap.size, ⟨r, pb, pw, ph, cp, ov', tv', ?_⟩, k.mono (fun x _ hx => hO x hx), fun x hx => hx.1⟩
  have lo := fun {x : Nat} (hx : O x) => (show (O x ∨ w.heap.size ≤ x) ∧ x < w'.heap.size from ⟨.inl hx, Nat.lt_of_lt_of_le (hbl x hx) hsz⟩)
  exact {
    bus := B
    ram := by rw [hm]; exact h.ram.keep k (hno _ (Ne.symm s1) (fun y h => (hy y h).1)) (hno _ (Ne.symm s2) (fun y h => (hy y h).2.1))
    watch := k.map h.watch (hno _ (Ne.symm s3) (fun y h => (hy y h).2.2.1))
    hits := k.map h.hits (hno _ (Ne.symm s4) (fun y h => (hy y h).2.2.2))
    own := ⟨lo o1, lo o2, lo o3, lo o4, lo o5⟩
    own1 := fun x hx => ⟨⟨(hmv m1 h.own1 x hx).2.1, owns_lt B.out hx⟩, (hmv m1 h.own1 x hx).2.2⟩
    own2 := fun x hx => ⟨⟨(hmv m2 h.own2 x hx).2.1, owns_lt B.tr hx⟩, (hmv m2 h.own2 x hx).2.2⟩
    sep := ⟨s1, s2, s3, s4⟩
    lt := fun x hx => hx.2
    acc := ha }
theorem RIn.dev {b q wb tb hb : Nat} {tv tv' : Value} {O : Nat → Prop} {w w' : World} {s s' : Sb} (h : RIn b q wb tb hb tv O w s) (B : RBusAt w' b q s'.l s'.lamp tv' s'.tn s'.tr) (hm : s'.m = s.m)
    (m2 : Moved w tv tv') (k : Keeps (fun k => k = b ∨ tv.ownBlock = some k) w w') (ha : AccRow s'.tr s'.tn) :
    ∃ O', RInv b O' w' s' ∧ Keeps O w w' ∧ Grew O O' w := by
  have hbl : ∀ x, O x → x < w.heap.size := h.lt
  obtain ⟨o1, o2, o3, o4, o5⟩ := h.own
  obtain ⟨s1, s2, s3, s4⟩ := h.sep
  have hO : ∀ x, (x = b ∨ tv.ownBlock = some x) → O x := by
    intro x hx
    rcases hx with rfl | hx
    · exact o1
    · exact (h.own2 x hx).1
  have hsz := k.size
  have hmv : ∀ k, tv'.ownBlock = some k → (O k ∨ w.heap.size ≤ k) ∧ k ≠ q ∧ k ≠ wb ∧ k ≠ tb ∧ k ≠ hb := by
    intro k hk
    rcases m2 with hv | hv
    · have := h.own2 k (hv ▸ hk)
      exact ⟨.inl this.1, this.2⟩
    · have h1 := hv k hk
      have h2 := hbl _ o2
      have h3 := hbl _ o3
      have h4 := hbl _ o4
      have h5 := hbl _ o5
      exact ⟨.inr h1, by omega, by omega, by omega, by omega⟩
  refine ⟨fun x => (O x ∨ w.heap.size ≤ x) ∧ x < w'.heap.size, ⟨q, wb, tb, hb, tv', ?_⟩, k.mono (fun x _ hx => hO x hx), fun x hx => hx.1⟩
  have lo := fun {x : Nat} (hx : O x) => (show (O x ∨ w.heap.size ≤ x) ∧ x < w'.heap.size from ⟨.inl hx, Nat.lt_of_lt_of_le (hbl x hx) hsz⟩)
  have hno : ∀ x, x ≠ b → (∀ y, tv.ownBlock = some y → y ≠ x) → ¬ (x = b ∨ tv.ownBlock = some x) := by
    intro x h1 h2 h3
    rcases h3 with h3 | h3
    · exact h1 h3
    · exact h2 x h3 rfl
  exact {
    bus := B
    ram := by rw [hm]; exact h.ram.keep k ⟨hno _ (Ne.symm s1) (fun y hy => (h.own2 y hy).2.1), hno _ (Ne.symm s2) (fun y hy => (h.own2 y hy).2.2.1), hno _ (Ne.symm s3) (fun y hy => (h.own2 y hy).2.2.2.1), hno _ (Ne.symm s4) (fun y hy => (h.own2 y hy).2.2.2.2)⟩
    own := ⟨lo o1, lo o2, lo o3, lo o4, lo o5⟩
    own2 := fun x hx => ⟨⟨(hmv x hx).1, owns_lt B.tr hx⟩, (hmv x hx).2⟩
    sep := ⟨s1, s2, s3, s4⟩
    lt := fun x hx => hx.2
    acc := ha }

theorem stC_ram {a n : Int} (h : a < 16384) : stC a n = rightC a n := if_pos h
theorem stC_dev {a n : Int} (h : ¬ a < 16384) : stC a n = devC a n := if_neg h
theorem errOf_ne {ea : Nat → Addr} {c : Nat} (h : c ≠ 0) : errOf ea c = errV ea c := if_neg h
theorem outL_byteVals (a v : Int) (l : List UInt8) : outB a v (byteVals l) = byteVals (outL a v l) ∧ outN a l.length = (outL a v l).length := by
  unfold outB outN outL
  by_cases h : a = 65536
  · rw [if_pos h, if_pos h, if_pos h, byteVals_add]
    exact ⟨rfl, by simp [byteS]⟩
  · rw [if_neg h, if_neg h, if_neg h]
    exact ⟨rfl, rfl⟩

/-- STORES, whatever the place -/
theorem bus_store (b : Nat) (O : Nat → Prop) (s : Sb) (a n v c : Int) (w : World) (ea : Nat → Addr) (E : Errs3 w ea) (h : BInv b O w s) (hl : s.l.length < 1000000) (hn : s.tn < 1000000) (ha : 0 ≤ a ∧ a < 4294967296) (hv : 0 ≤ v ∧ v < 4294967296) :
    Calls Tryz.prog 75 #[.pointer (some ⟨b, 0, none⟩), .int .u32 a, .int .i64 n, .int .u32 v, .int .i64 c] w fun e w' => e = .returned (errOf ea (stC a n)) ∧
      ∃ O', BInv b O' w' (stepS a n v c s) ∧ Keeps O w w' ∧ Grew O O' w := by
  obtain ⟨r, pb, pw, ph, cp, ov, tv, h⟩ := h
  have hb0 : w.cell? ⟨b, 0, none⟩ = some (.pointer (some ⟨r, 0, none⟩)) := by simp [World.cell?, h.bus.box]
  by_cases ha4 : a < 16384
  · by_cases hc : rightC a n = 0
    · have hs : stC a n = 0 := by rw [stC_ram ha4, hc]
      have hst : stepS a n v c s = { s with m := stTo s.m a.toNat n.toNat v n.toNat } := by
        unfold stepS
        rw [if_neg (by omega), if_pos ha4]
      rw [hs, hst]
      refine (bstore_ok b r pb pw ph _ 0 s.m a n v c w hb0 h.ram h.watch ha hv hc).mono fun e w' ⟨he, hR, hk⟩ => ⟨he, O, ⟨r, pb, pw, ph, cp, ov, tv, ?_⟩, hk.mono (fun x _ hx => hx ▸ h.own.2.2.1), Grew.refl O w⟩
      have hap := h.ram.apart
      exact {
        bus := h.bus.keep hk h.sep.2.1 (fun g hg => (h.own1 g hg).2.2.1) (fun g hg => (h.own2 g hg).2.2.1)
        ram := hR
        watch := hk.map h.watch (by omega)
        hits := hk.map h.hits (by omega)
        own := h.own
        own1 := h.own1
        own2 := h.own2
        sep := h.sep
        lt := fun x hx => Nat.lt_of_lt_of_le (h.lt x hx) hk.size
        acc := h.acc }
    · have hs : stC a n ≠ 0 := by rw [stC_ram ha4]; exact hc
      rw [errOf_ne hs, stC_ram ha4, show stepS a n v c s = s from if_pos hs]
      exact (bstore_bad b r a n v c w ea E hb0 ha ha4 hc).mono fun e w' ⟨he, hw⟩ => by
        subst hw
        exact ⟨he, O, ⟨r, pb, pw, ph, cp, ov, tv, h⟩, Keeps.refl _ _, Grew.refl _ _⟩
  · by_cases hc : devC a n = 0
    · have hs : stC a n = 0 := by rw [stC_dev ha4, hc]
      have hst : stepS a n v c s = { s with l := outL a v s.l, lamp := lampV a v s.lamp, tn := s.tn + 1, tr := s.tr ++ accC c true a v } := by
        unfold stepS
        rw [if_neg (by omega), if_neg ha4]
      rw [hs, hst]
      have hol := outL_byteVals a v s.l
      refine (bstore_dev b r ov _ _ s.lamp tv s.tn s.tr a n v c w h.bus hl hn ha hv hc).mono fun e w' ⟨he, ov', tv', hB, m1, m2, hk⟩ => ⟨he, h.dev (s' := { s with l := outL a v s.l, lamp := lampV a v s.lamp, tn := s.tn + 1, tr := s.tr ++ accC c true a v }) ?_ rfl m1 m2 hk (h.acc.add c true a v)⟩
      rw [hol.1, hol.2] at hB
      exact hB
    · have hs : stC a n ≠ 0 := by rw [stC_dev ha4]; exact hc
      rw [errOf_ne hs, stC_dev ha4, show stepS a n v c s = s from if_pos hs]
      exact (bstore_dbad b a n v c w ea E ha ha4 hc).mono fun e w' ⟨he, hw⟩ => by
        subst hw
        exact ⟨he, O, ⟨r, pb, pw, ph, cp, ov, tv, h⟩, Keeps.refl _ _, Grew.refl _ _⟩
theorem ref_store (b : Nat) (O : Nat → Prop) (s : Sb) (a n v c : Int) (w : World) (h : RInv b O w s) (hl : s.l.length < 1000000) (hn : s.tn < 1000000) (ha : 0 ≤ a ∧ a < 4294967296) (hw : (Lit.int .i64 n).wf = true) (hv : 0 ≤ v ∧ v < 4294967296) :
    Calls Tryz.prog 97 #[.pointer (some ⟨b, 0, none⟩), .int .u32 a, .int .i64 n, .int .u32 v, .int .i64 c] w fun e w' => e = .returned (.int .i64 (stC a n)) ∧
      ∃ O', RInv b O' w' (stepS a n v c s) ∧ Keeps O w w' ∧ Grew O O' w := by
  obtain ⟨q, wb, tb, hb, tv, h⟩ := h
  have hb0 : w.cell? ⟨b, 0, none⟩ = some (.pointer (some ⟨q, 0, none⟩)) := by simp [World.cell?, h.bus.box]
  by_cases ha4 : a < 16384
  · by_cases hc : rightC a n = 0
    · have hs : stC a n = 0 := by rw [stC_ram ha4, hc]
      have hst : stepS a n v c s = { s with m := stTo s.m a.toNat n.toNat v n.toNat } := by
        unfold stepS
        rw [if_neg (by omega), if_pos ha4]
      rw [hs, hst]
      refine (rbstore_ok b q wb tb hb s.m _ _ a n v c w hb0 h.ram ha hv hc).mono fun e w' ⟨he, hR, hk⟩ => ⟨he, O, ⟨q, wb, tb, hb, tv, ?_⟩, hk.mono (fun x _ hx => ?_), Grew.refl O w⟩
      · have hsp := h.sep
        exact {
          bus := h.bus.keep hk (fun hx => by omega) (fun g hg hx => by have := h.own2 g hg; omega)
          ram := ⟨⟨hR.raw.box, hR.raw.words, hR.raw.watch, hR.raw.hit.congr (fun p _ => by simp), hR.raw.apart⟩, hR.rng⟩
          own := h.own
          own2 := h.own2
          sep := h.sep
          lt := fun x hx => Nat.lt_of_lt_of_le (h.lt x hx) hk.size
          acc := h.acc }
      · rcases hx with rfl | rfl
        · exact h.own.2.2.1
        · exact h.own.2.2.2.2
    · have hs : stC a n ≠ 0 := by rw [stC_ram ha4]; exact hc
      rw [stC_ram ha4, show stepS a n v c s = s from if_pos hs]
      exact (rbstore_bad b q a n v c w hb0 ha hw ha4 hc).mono fun e w' ⟨he, hw⟩ => by
        subst hw
        exact ⟨he, O, ⟨q, wb, tb, hb, tv, h⟩, Keeps.refl _ _, Grew.refl _ _⟩
  · by_cases hc : devC a n = 0
    · have hs : stC a n = 0 := by rw [stC_dev ha4, hc]
      have hst : stepS a n v c s = { s with l := outL a v s.l, lamp := lampV a v s.lamp, tn := s.tn + 1, tr := s.tr ++ accC c true a v } := by
        unfold stepS
        rw [if_neg (by omega), if_neg ha4]
      rw [hs, hst]
      exact (rbstore_dev b q _ s.lamp tv s.tn s.tr a n v c w h.bus hl hn ha hv hc).mono fun e w' ⟨he, tv', hB, m2, hk⟩ => ⟨he, h.dev (s' := { s with l := outL a v s.l, lamp := lampV a v s.lamp, tn := s.tn + 1, tr := s.tr ++ accC c true a v }) hB rfl m2 hk (h.acc.add c true a v)⟩
    · have hs : stC a n ≠ 0 := by rw [stC_dev ha4]; exact hc
      rw [stC_dev ha4, show stepS a n v c s = s from if_pos hs]
      exact (rbstore_dbad b a n v c w ha hw ha4 hc).mono fun e w' ⟨he, hw⟩ => by
        subst hw
        exact ⟨he, O, ⟨q, wb, tb, hb, tv, h⟩, Keeps.refl _ _, Grew.refl _ _⟩

/-- LOADS -/
theorem bus_load (b : Nat) (O : Nat → Prop) (s : Sb) (a n c : Int) (sg : Bool) (w : World) (ea : Nat → Addr) (E : Errs3 w ea) (h : BInv b O w s) (hn : s.tn < 1000000) (ha : 0 ≤ a ∧ a < 4294967296) :
    Calls Tryz.prog 74 #[.pointer (some ⟨b, 0, none⟩), .int .u32 a, .int .i64 n, .bool sg, .int .i64 c] w fun e w' => e = .returned (.tuple #[.int .u32 (ldV a n c sg s), errOf ea (stC a n)]) ∧
      ∃ O', BInv b O' w' (stepL a n c s) ∧ Keeps O w w' ∧ Grew O O' w := by
  obtain ⟨r, pb, pw, ph, cp, ov, tv, h⟩ := h
  have hb0 : w.cell? ⟨b, 0, none⟩ = some (.pointer (some ⟨r, 0, none⟩)) := by simp [World.cell?, h.bus.box]
  have hstay : BInv b O w s := ⟨r, pb, pw, ph, cp, ov, tv, h⟩
  by_cases ha4 : a < 16384
  · by_cases hc : rightC a n = 0
    · have hs : stC a n = 0 := by rw [stC_ram ha4, hc]
      rw [hs, show stepL a n c s = s by unfold stepL; rw [if_neg (by omega), if_pos ha4], show ldV a n c sg s = Wd.wide (be s.m a.toNat n.toNat) (8 * n) sg by unfold ldV; rw [if_neg (by omega), if_pos ha4]]
      exact (bload_ok b r pb pw ph _ s.m a n c sg w hb0 h.ram ha hc).mono fun e w' ⟨he, hw⟩ => by
        subst hw
        exact ⟨he, O, hstay, Keeps.refl _ _, Grew.refl _ _⟩
    · have hs : stC a n ≠ 0 := by rw [stC_ram ha4]; exact hc
      rw [errOf_ne hs, stC_ram ha4, show stepL a n c s = s from if_pos hs, show ldV a n c sg s = 0 from if_pos hs]
      exact (bload_bad b r a n c sg w ea E hb0 ha ha4 hc).mono fun e w' ⟨he, hw⟩ => by
        subst hw
        exact ⟨he, O, hstay, Keeps.refl _ _, Grew.refl _ _⟩
  · by_cases hc : devC a n = 0
    · have hs : stC a n = 0 := by rw [stC_dev ha4, hc]
      have hst : stepL a n c s = { s with tn := s.tn + 1, tr := s.tr ++ accC c false a (devV a c s.lamp) } := by
        unfold stepL
        rw [if_neg (by omega), if_neg ha4]
      rw [hs, hst, show ldV a n c sg s = devV a c s.lamp by unfold ldV; rw [if_neg (by omega), if_neg ha4]]
      exact (bload_dev b r ov _ _ s.lamp tv s.tn s.tr a n c sg w h.bus hn ha hc).mono fun e w' ⟨he, tv', hB, m2, hk⟩ => ⟨he, h.dev (s' := { s with tn := s.tn + 1, tr := s.tr ++ accC c false a (devV a c s.lamp) }) hB rfl (.inl rfl) m2 (hk.mono (fun x _ hx => by rcases hx with hx | hx; exact .inl hx; exact .inr (.inr hx))) (h.acc.add c false a _)⟩
    · have hs : stC a n ≠ 0 := by rw [stC_dev ha4]; exact hc
      rw [errOf_ne hs, stC_dev ha4, show stepL a n c s = s from if_pos hs, show ldV a n c sg s = 0 from if_pos hs]
      exact (bload_dbad b a n c sg w ea E ha ha4 hc).mono fun e w' ⟨he, hw⟩ => by
        subst hw
        exact ⟨he, O, hstay, Keeps.refl _ _, Grew.refl _ _⟩
theorem ref_load (b : Nat) (O : Nat → Prop) (s : Sb) (a n c : Int) (sg : Bool) (w : World) (h : RInv b O w s) (hn : s.tn < 1000000) (ha : 0 ≤ a ∧ a < 4294967296) (hw : (Lit.int .i64 n).wf = true) (hcw : (Lit.int .i64 c).wf = true) :
    Calls Tryz.prog 96 #[.pointer (some ⟨b, 0, none⟩), .int .u32 a, .int .i64 n, .bool sg, .int .i64 c] w fun e w' => e = .returned (.tuple #[.int .u32 (ldV a n c sg s), .int .i64 (stC a n)]) ∧
      ∃ O', RInv b O' w' (stepL a n c s) ∧ Keeps O w w' ∧ Grew O O' w := by
  obtain ⟨q, wb, tb, hb, tv, h⟩ := h
  have hb0 : w.cell? ⟨b, 0, none⟩ = some (.pointer (some ⟨q, 0, none⟩)) := by simp [World.cell?, h.bus.box]
  have hstay : RInv b O w s := ⟨q, wb, tb, hb, tv, h⟩
  by_cases ha4 : a < 16384
  · by_cases hc : rightC a n = 0
    · have hs : stC a n = 0 := by rw [stC_ram ha4, hc]
      rw [hs, show stepL a n c s = s by unfold stepL; rw [if_neg (by omega), if_pos ha4], show ldV a n c sg s = Wd.wide (be s.m a.toNat n.toNat) (8 * n) sg by unfold ldV; rw [if_neg (by omega), if_pos ha4]]
      exact (rbload_ok b q wb tb hb s.m _ _ a n c sg w hb0 h.ram ha hc).mono fun e w' ⟨he, hw⟩ => by
        subst hw
        exact ⟨he, O, hstay, Keeps.refl _ _, Grew.refl _ _⟩
    · have hs : stC a n ≠ 0 := by rw [stC_ram ha4]; exact hc
      rw [stC_ram ha4, show stepL a n c s = s from if_pos hs, show ldV a n c sg s = 0 from if_pos hs]
      exact (rbload_bad b q a n c sg w hb0 ha hw ha4 hc).mono fun e w' ⟨he, hw⟩ => by
        subst hw
        exact ⟨he, O, hstay, Keeps.refl _ _, Grew.refl _ _⟩
  · by_cases hc : devC a n = 0
    · have hs : stC a n = 0 := by rw [stC_dev ha4, hc]
      have hst : stepL a n c s = { s with tn := s.tn + 1, tr := s.tr ++ accC c false a (devV a c s.lamp) } := by
        unfold stepL
        rw [if_neg (by omega), if_neg ha4]
      rw [hs, hst, show ldV a n c sg s = devV a c s.lamp by unfold ldV; rw [if_neg (by omega), if_neg ha4]]
      exact (rbload_dev b q _ s.lamp tv s.tn s.tr a n c sg w h.bus hn ha hcw hc).mono fun e w' ⟨he, tv', hB, m2, hk⟩ => ⟨he, h.dev (s' := { s with tn := s.tn + 1, tr := s.tr ++ accC c false a (devV a c s.lamp) }) hB rfl m2 hk (h.acc.add c false a _)⟩
    · have hs : stC a n ≠ 0 := by rw [stC_dev ha4]; exact hc
      rw [stC_dev ha4, show stepL a n c s = s from if_pos hs, show ldV a n c sg s = 0 from if_pos hs]
      exact (rbload_dbad b a n c sg w ha hw ha4 hc).mono fun e w' ⟨he, hw⟩ => by
        subst hw
        exact ⟨he, O, hstay, Keeps.refl _ _, Grew.refl _ _⟩
end Go.Proofs.YtlbdkcnbgdmpaaaGreatDoor

/- CpuDefs -/
/- A step of the processor, said plainly. No program in sight. -/
namespace Go.Proofs.YtlbdkcnbgdmpaaaGreatDoor
namespace Cp
open Go.RowKit
/-- a state of the processor -/
structure St where
  R : Nat → Int
  hi : Int
  lo : Int
  pc : Int
  next : Int
  slot : Bool
  status : Int
  cause : Int
  epc : Int
  bad : Int
  compare : Int
  count : Int
def u (x : Int) : Int := x % 4294967296
def W (x : Int) : Prop := 0 ≤ x ∧ x < 4294967296
theorem W_u (x : Int) : W (u x) := by unfold W u; omega
theorem W_0 : W 0 := by unfold W; omega
/-- the ranges of a state -/
structure Rng (s : St) : Prop where
  R : ∀ k, k < 32 → W (s.R k)
  hi : W s.hi
  lo : W s.lo
  pc : W s.pc
  next : W s.next
  status : W s.status
  cause : W s.cause
  epc : W s.epc
  bad : W s.bad
  compare : W s.compare
  count : 0 ≤ s.count ∧ s.count < 4611686018427387904
def setR (s : St) (n v : Int) : St := if n = 0 then s else { s with R := fun k => if k = n.toNat then v else s.R k }
def immS (i : Cd.Ins) : Int := Wd.wide i.imm 16 true
def bit (b : Bool) : Int := if b then 1 else 0
/-- sums of registers -/
def sumV (op : Nat) (a b imm : Int) : Int :=
  match op with
  | 1 => Wd.shift 60 b imm
  | 2 => Wd.shift 62 b imm
  | 3 => Wd.shift 126 b imm
  | 4 => Wd.shift 60 b a
  | 5 => Wd.shift 62 b a
  | 6 => Wd.shift 126 b a
  | 19 => u (a + b)
  | 20 => u (a + b)
  | 21 => u (a - b)
  | 22 => u (a - b)
  | 23 => bits .and .u32 a b
  | 24 => bits .or .u32 a b
  | 25 => bits .xor .u32 a b
  | 26 => bits .xor .u32 4294967295 (bits .or .u32 a b)
  | 27 => bit (Wd.less a b true)
  | 28 => bit (Wd.less a b false)
  | _ => 0
def over (op : Nat) (a b : Int) : Bool :=
  match op with
  | 19 => !Wd.isS (Wd.sg a + Wd.sg b)
  | 21 => !Wd.isS (Wd.sg a - Wd.sg b)
  | _ => false
def sumAt (i : Cd.Ins) (s : St) (a b : Int) : Int × St :=
  match i.op with
  | 11 => (-1, setR s i.D s.hi)
  | 12 => (-1, { s with hi := a })
  | 13 => (-1, setR s i.D s.lo)
  | 14 => (-1, { s with lo := a })
  | 15 => (-1, { s with hi := Wd.hi a b true, lo := Wd.lo a b true })
  | 16 => (-1, { s with hi := Wd.hi a b false, lo := Wd.lo a b false })
  | 17 => (-1, if b = 0 then s else { s with lo := Wd.quo a b true, hi := Wd.rst a b true })
  | 18 => (-1, if b = 0 then s else { s with lo := Wd.quo a b false, hi := Wd.rst a b false })
  | op => if over op a b then (12, s) else (-1, setR s i.D (sumV op a b i.imm))
def sum (i : Cd.Ins) (s : St) : Int × St := sumAt i s (s.R i.S.toNat) (s.R i.T.toNat)
/-- sums with what the instruction has at once -/
def atV (op : Nat) (a n imm : Int) : Int :=
  match op with
  | 35 => u (a + n)
  | 36 => u (a + n)
  | 37 => bit (Wd.less a n true)
  | 38 => bit (Wd.less a n false)
  | 39 => bits .and .u32 a imm
  | 40 => bits .or .u32 a imm
  | 41 => bits .xor .u32 a imm
  | _ => u (imm * 65536)
def atOnce (i : Cd.Ins) (s : St) : Int × St :=
  if i.op = 35 ∧ Wd.isS (Wd.sg (s.R i.S.toNat) + Wd.sg (immS i)) = false then (12, s)
  else (-1, setR s i.T (atV i.op (s.R i.S.toNat) (immS i) i.imm))
def size (op : Nat) : Int :=
  match op with
  | 46 => 1
  | 47 => 2
  | 49 => 1
  | 51 => 1
  | 50 => 2
  | 52 => 2
  | _ => 4
def isSg (op : Nat) : Bool :=
  match op with
  | 46 => true
  | 47 => true
  | _ => false
def addr (i : Cd.Ins) (s : St) : Int := u (s.R i.S.toNat + immS i)
def load (i : Cd.Ins) (s : St) (b : Sb) : Int × St × Sb :=
  if stC (addr i s) (size i.op) ≠ 0 then (4, { s with bad := addr i s }, b)
  else (-1, setR s i.T (ldV (addr i s) (size i.op) s.count (isSg i.op) b), stepL (addr i s) (size i.op) s.count b)
def store (i : Cd.Ins) (s : St) (b : Sb) : Int × St × Sb :=
  if stC (addr i s) (size i.op) ≠ 0 then (5, { s with bad := addr i s }, b)
  else (-1, s, stepS (addr i s) (size i.op) (s.R i.T.toNat) s.count b)
/-- where a branch goes, if it is taken -/
def near (i : Cd.Ins) (s : St) : Int := u (s.pc + 4 + 4 * immS i)
def far (i : Cd.Ins) (s : St) : Int := u (s.pc + 4) / 268435456 * 268435456 + 4 * i.imm
def to (i : Cd.Ins) (s : St) : Option Int :=
  match i.op with
  | 29 => some (far i s)
  | 30 => some (far i s)
  | 31 => if s.R i.S.toNat = s.R i.T.toNat then some (near i s) else none
  | 32 => if s.R i.S.toNat = s.R i.T.toNat then none else some (near i s)
  | 33 => if Wd.sg (s.R i.S.toNat) ≤ 0 then some (near i s) else none
  | 34 => if Wd.sg (s.R i.S.toNat) ≤ 0 then none else some (near i s)
  | _ => some (s.R i.S.toNat)
def link (i : Cd.Ins) (s : St) : St :=
  match i.op with
  | 30 => setR s 31 (u (s.pc + 8))
  | 8 => setR s i.D (u (s.pc + 8))
  | _ => s
/-- a branch: exception, state, what comes behind the next one, is it a branch -/
def branch (i : Cd.Ins) (s : St) (nx : Int) (br : Bool) : Int × St × Int × Bool :=
  if s.slot then (10, s, nx, br) else (-1, link i s, (to i s).getD nx, true)
def from_ (i : Cd.Ins) (s : St) : Int × St :=
  if i.D = 8 then (-1, setR s i.T s.bad)
  else if i.D = 9 then (-1, setR s i.T (u s.count))
  else if i.D = 11 then (-1, setR s i.T s.compare)
  else if i.D = 12 then (-1, setR s i.T s.status)
  else if i.D = 13 then (-1, setR s i.T s.cause)
  else if i.D = 14 then (-1, setR s i.T s.epc)
  else (10, s)
def to_ (i : Cd.Ins) (s : St) : Int × St :=
  if i.D = 11 then (-1, { s with compare := s.R i.T.toNat })
  else if i.D = 12 then (-1, { s with status := s.R i.T.toNat % 4 })
  else if i.D = 14 then (-1, { s with epc := s.R i.T.toNat })
  else (10, s)
def trap (i : Cd.Ins) (s : St) : Int × St :=
  match i.op with
  | 9 => (8, s)
  | 10 => (9, s)
  | 43 => from_ i s
  | 44 => to_ i s
  | 45 => if s.status / 2 % 2 = 0 ∨ s.slot = true then (10, s) else (-1, { s with pc := s.epc, next := u (s.epc + 4), status := s.status - 2 })
  | _ => (10, s)
structure Out where
  e : Int
  s : St
  b : Sb
  nx : Int
  br : Bool
def doIt (i : Cd.Ins) (s : St) (b : Sb) (nx : Int) (br : Bool) : Out :=
  match Cd.kd i.op with
  | 1 => ⟨(branch i s nx br).1, (branch i s nx br).2.1, b, (branch i s nx br).2.2.1, (branch i s nx br).2.2.2⟩
  | 2 => ⟨(load i s b).1, (load i s b).2.1, (load i s b).2.2, nx, br⟩
  | 3 => ⟨(store i s b).1, (store i s b).2.1, (store i s b).2.2, nx, br⟩
  | 4 => ⟨(trap i s).1, (trap i s).2, b, nx, br⟩
  | _ => if 35 ≤ i.op ∧ i.op ≤ 42 then ⟨(atOnce i s).1, (atOnce i s).2, b, nx, br⟩ else ⟨(sum i s).1, (sum i s).2, b, nx, br⟩
/-- one instruction -/
def ins (i : Cd.Ins) (s : St) (b : Sb) : Int × St × Sb :=
  let o := doIt i s b (u (s.next + 4)) false
  (o.e, if o.e = -1 ∧ i.op ≠ 45 then { o.s with pc := o.s.next, next := o.nx, slot := o.br } else o.s, o.b)
def due (s : St) : Bool := decide (s.compare ≠ 0 ∧ s.compare ≤ s.count ∧ s.status % 4 = 1)
def one (s : St) (b : Sb) : Int × St × Sb :=
  if due s then (0, s, b)
  else if rightC s.pc 4 ≠ 0 then (4, { s with bad := s.pc }, b)
  else ins (Cd.decOf (be b.m s.pc.toNat 4)) s b
def enter (s : St) (c : Int) : St :=
  if s.status / 2 % 2 = 0 then
    { s with epc := if s.slot then u (s.pc - 4) else s.pc, cause := if s.slot then 4 * c + 2147483648 else 4 * c, status := s.status + 2, pc := 384, next := 388, slot := false }
  else { s with cause := s.cause - s.cause / 4 % 32 * 4 + 4 * c, pc := 384, next := 388, slot := false }
/-- A STEP -/
def step (s : St) (b : Sb) : Int × St × Sb :=
  let o := one s b
  let s1 := if o.1 = -1 then o.2.1 else enter o.2.1 o.1
  (o.1, { s1 with count := s1.count + 1 }, o.2.2)
end Cp
end Go.Proofs.YtlbdkcnbgdmpaaaGreatDoor

/- Shape -/
/- An operation's shape as a value. -/
namespace Go.Proofs.YtlbdkcnbgdmpaaaGreatDoor
open Go.RowKit Go.Deep
set_option linter.unusedVariables false

/-- a shape as a value -/
def shapeV (op : Nat) : Value := .agg #[.string ⟨(Cd.row op).name.toArray⟩, .int .u32 (Cd.row op).major, .int .u32 (Cd.row op).minor, .string ⟨(Cd.row op).fields.toArray⟩, .string ⟨(Cd.kindS (Cd.row op).kd).toArray⟩]

end Go.Proofs.YtlbdkcnbgdmpaaaGreatDoor

/- CodeOf0 -/
/- The walk of code.of0. -/
namespace Go.Proofs.YtlbdkcnbgdmpaaaGreatDoor
open Go.RowKit Go.Deep
set_option linter.unusedVariables false

set_option maxRecDepth 100000 in
set_option maxHeartbeats 8000000 in
theorem of0_any (op : Nat) (h0 : 0 ≤ op) (h : op < 15) (w : World) :
    Calls Tryz.prog 69 #[.int .i64 op] w fun e w' => e = .returned (shapeV op) ∧ Keeps (fun _ => False) w w' := by
  have : op = 0 ∨ op = 1 ∨ op = 2 ∨ op = 3 ∨ op = 4 ∨ op = 5 ∨ op = 6 ∨ op = 7 ∨ op = 8 ∨ op = 9 ∨ op = 10 ∨ op = 11 ∨ op = 12 ∨ op = 13 ∨ op = 14 := by omega
  rcases this with rfl | rfl | rfl | rfl | rfl | rfl | rfl | rfl | rfl | rfl | rfl | rfl | rfl | rfl | rfl
  all_goals
    go_enter Tryz.func69, Tryz.ntmps69
    go_wp2
    refine bodyPost_ret (v := shapeV _) ?r rfl ⟨rfl, ?k⟩
    case r => simp [results, Tryz.results69, go_sem, shapeV, Cd.row, Cd.kindS]
    case k => exact (Keeps.refl _ _).alloc _
end Go.Proofs.YtlbdkcnbgdmpaaaGreatDoor

/- CodeOf1 -/
/- The walk of code.of1. -/
namespace Go.Proofs.YtlbdkcnbgdmpaaaGreatDoor
open Go.RowKit Go.Deep
set_option linter.unusedVariables false

set_option maxRecDepth 100000 in
set_option maxHeartbeats 8000000 in
theorem of1_any (op : Nat) (h0 : 15 ≤ op) (h : op < 29) (w : World) :
    Calls Tryz.prog 68 #[.int .i64 op] w fun e w' => e = .returned (shapeV op) ∧ Keeps (fun _ => False) w w' := by
  have : op = 15 ∨ op = 16 ∨ op = 17 ∨ op = 18 ∨ op = 19 ∨ op = 20 ∨ op = 21 ∨ op = 22 ∨ op = 23 ∨ op = 24 ∨ op = 25 ∨ op = 26 ∨ op = 27 ∨ op = 28 := by omega
  rcases this with rfl | rfl | rfl | rfl | rfl | rfl | rfl | rfl | rfl | rfl | rfl | rfl | rfl | rfl
  all_goals
    go_enter Tryz.func68, Tryz.ntmps68
    go_wp2
    refine bodyPost_ret (v := shapeV _) ?r rfl ⟨rfl, ?k⟩
    case r => simp [results, Tryz.results68, go_sem, shapeV, Cd.row, Cd.kindS]
    case k => exact (Keeps.refl _ _).alloc _
end Go.Proofs.YtlbdkcnbgdmpaaaGreatDoor

/- CodeOf2 -/
/- The walk of code.of2. -/
namespace Go.Proofs.YtlbdkcnbgdmpaaaGreatDoor
open Go.RowKit Go.Deep
set_option linter.unusedVariables false

set_option maxRecDepth 100000 in
set_option maxHeartbeats 8000000 in
theorem of2_any (op : Nat) (h0 : 29 ≤ op) (h : op < 54) (w : World) :
    Calls Tryz.prog 67 #[.int .i64 op] w fun e w' => e = .returned (shapeV op) ∧ Keeps (fun _ => False) w w' := by
  have : op = 29 ∨ op = 30 ∨ op = 31 ∨ op = 32 ∨ op = 33 ∨ op = 34 ∨ op = 35 ∨ op = 36 ∨ op = 37 ∨ op = 38 ∨ op = 39 ∨ op = 40 ∨ op = 41 ∨ op = 42 ∨ op = 43 ∨ op = 44 ∨ op = 45 ∨ op = 46 ∨ op = 47 ∨ op = 48 ∨ op = 49 ∨ op = 50 ∨ op = 51 ∨ op = 52 ∨ op = 53 := by omega
  rcases this with rfl | rfl | rfl | rfl | rfl | rfl | rfl | rfl | rfl | rfl | rfl | rfl | rfl | rfl | rfl | rfl | rfl | rfl | rfl | rfl | rfl | rfl | rfl | rfl | rfl
  all_goals
    go_enter Tryz.func67, Tryz.ntmps67
    go_wp2
    refine bodyPost_ret (v := shapeV _) ?r rfl ⟨rfl, ?k⟩
    case r => simp [results, Tryz.results67, go_sem, shapeV, Cd.row, Cd.kindS]
    case k => exact (Keeps.refl _ _).alloc _
end Go.Proofs.YtlbdkcnbgdmpaaaGreatDoor
