/- The walk of the law RamActs. -/
import Derived.Test.YtlmnmncdoiealaaDoorRefHits
import Derived.Test.YtlmnmncdoiealaaDoorRefNewD
import Derived.Test.YtlmnmncdoiealaaDoorRamCopy
import Derived.Test.YtlmnmncdoiealaaDoorStored
import Derived.Test.YtlmnmncdoiealaaDoorAlike
import Derived.Test.YtlmnmncdoiealaaDoorSame
import Derived.Test.YtlmnmncdoiealaaDoorCodedR
import Derived.Test.YtlmnmncdoiealaaDoorOpenRacts
import Derived.Deep.CutBlock
import Derived.Deep.DeepCutAuto
namespace Go.Proofs.YtlmnmncdoiealaaDoor
open Go.RowKit Go.Deep
set_option linter.unusedVariables false
set_option linter.unusedSimpArgs false

/-- both memories as they lie, alike -/
structure RSt (w : World) (B X r pb pw ph q wb tb hb k : Nat) (m : Nat → Int) (wt ht : Nat → Bool) : Prop where
  ram : RamAt w r pb pw ph 16384 m
  wm : BMap w pw k (toI wt)
  hm : BMap w ph k (toI ht)
  ref : RefAt w q wb tb hb m wt ht
  lo : (B ≤ r ∧ B ≤ pb ∧ B ≤ pw ∧ B ≤ ph) ∧ (r < X ∧ pb < X ∧ pw < X ∧ ph < X) ∧ (X ≤ q ∧ X ≤ wb ∧ X ≤ tb ∧ X ≤ hb) ∧ B ≤ X
theorem RSt.quiet {w w' : World} {B X r pb pw ph q wb tb hb k : Nat} {m : Nat → Int} {wt ht : Nat → Bool} (h : RSt w B X r pb pw ph q wb tb hb k m wt ht) (K : Keeps (fun _ => False) w w') : RSt w' B X r pb pw ph q wb tb hb k m wt ht :=
  ⟨h.ram.keep K (fun h => h) (fun h => h), h.wm.keep K (fun h => h), h.hm.keep K (fun h => h), h.ref.keep K ⟨fun h => h, fun h => h, fun h => h, fun h => h⟩, h.lo⟩
theorem RSt.more {w : World} {B X r pb pw ph q wb tb hb k k' : Nat} {m : Nat → Int} {wt ht : Nat → Bool} (h : RSt w B X r pb pw ph q wb tb hb k m wt ht) (hk : k ≤ k') : RSt w B X r pb pw ph q wb tb hb k' m wt ht :=
  ⟨h.ram, h.wm.more hk, h.hm.more hk, h.ref, h.lo⟩
def RLo (B X r pb pw ph q wb tb hb : Nat) : Prop := (B ≤ r ∧ B ≤ pb ∧ B ≤ pw ∧ B ≤ ph) ∧ (r < X ∧ pb < X ∧ pw < X ∧ ph < X) ∧ (X ≤ q ∧ X ≤ wb ∧ X ≤ tb ∧ X ≤ hb) ∧ B ≤ X
theorem RSt.far {B X r pb pw ph q wb tb hb : Nat} (h : RLo B X r pb pw ph q wb tb hb) : ¬ (q = pb ∨ q = ph) ∧ ¬ (wb = pb ∨ wb = ph) ∧ ¬ (tb = pb ∨ tb = ph) ∧ ¬ (hb = pb ∨ hb = ph) := by
  unfold RLo at h
  refine ⟨fun h => ?_, fun h => ?_, fun h => ?_, fun h => ?_⟩ <;> omega
theorem RSt.near {B X r pb pw ph q wb tb hb : Nat} (h : RLo B X r pb pw ph q wb tb hb) : ¬ (r = wb ∨ r = hb) ∧ ¬ (pb = wb ∨ pb = hb) ∧ ¬ (pw = wb ∨ pw = hb) ∧ ¬ (ph = wb ∨ ph = hb) := by
  unfold RLo at h
  refine ⟨fun h => ?_, fun h => ?_, fun h => ?_, fun h => ?_⟩ <;> omega
theorem RSt.fresh {B X r pb pw ph q wb tb hb b : Nat} (h : RLo B X r pb pw ph q wb tb hb) (hb' : b = pb ∨ b = ph ∨ b = wb ∨ b = hb) : ¬ b < B := by
  unfold RLo at h
  omega
theorem RSt.tbs {B X r pb pw ph q wb tb hb : Nat} (h : RLo B X r pb pw ph q wb tb hb) : ¬ (r = tb) ∧ ¬ (pb = tb) ∧ ¬ (pw = tb) ∧ ¬ (ph = tb) ∧ ¬ tb < B := by
  unfold RLo at h
  omega
theorem RSt.pws {B X r pb pw ph q wb tb hb : Nat} (h : RLo B X r pb pw ph q wb tb hb) : (¬ (q = pw) ∧ ¬ (wb = pw) ∧ ¬ (tb = pw) ∧ ¬ (hb = pw)) ∧ ¬ pw < B := by
  unfold RLo at h
  omega
theorem RSt.phs {B X r pb pw ph q wb tb hb : Nat} (h : RLo B X r pb pw ph q wb tb hb) : (¬ (q = ph) ∧ ¬ (wb = ph) ∧ ¬ (tb = ph) ∧ ¬ (hb = ph)) ∧ ¬ ph < B ∧ ¬ (r = hb) ∧ ¬ (pb = hb) ∧ ¬ (pw = hb) ∧ ¬ (ph = hb) ∧ ¬ hb < B := by
  unfold RLo at h
  omega
theorem BMap.copy {w : World} {b n : Nat} {f : Int → Bool} (h : BMap w b n f) : ∃ es c, w.heap[b]? = some (.map es c) ∧ ∀ (w' : World) (b' : Nat), w'.heap[b']? = some (.map es c) → BMap w' b' n f := by
  obtain ⟨D, ⟨es, c, hb, h1⟩, h2⟩ := h
  exact ⟨es, c, hb, fun w' b' hb' => ⟨D, ⟨es, c, hb', h1⟩, h2⟩⟩
theorem rightC_rng {a n : Int} (h : rightC a n ≠ 0) : 1 ≤ rightC a n ∧ rightC a n ≤ 10 := by
  refine ⟨by omega, ?_⟩
  unfold rightC
  split <;> (try split) <;> (try split) <;> omega
theorem toI_page {wt : Nat → Bool} {p : Nat} (h : p < 64) : toI wt ((p : Nat) : Int) = wt p := by
  unfold toI
  rw [decide_eq_true ⟨by omega, by omega⟩]
  simp
theorem toI_far {wt : Nat → Bool} {p : Int} (h : 64 ≤ p) : toI wt p = false := by
  unfold toI
  rw [decide_eq_false (by omega)]
  rfl
theorem toI_none : toI (fun _ => false) = fun _ => false := by
  funext p
  unfold toI
  simp
theorem toI_set {wt : Nat → Bool} {p : Nat} (h : p < 64) (x : Bool) : (fun z : Int => if z = ((p : Nat) : Int) then x else toI wt z) = toI (fun k => if k = p then x else wt k) := by
  funext z
  unfold toI
  by_cases e : z = ((p : Nat) : Int)
  · subst e
    rw [if_pos rfl, decide_eq_true ⟨by omega, by omega⟩]
    simp
  · rw [if_neg e]
    by_cases hz : 0 ≤ z ∧ z < 64
    · dsimp only
      rw [if_neg (fun h2 => e (by omega))]
    · rw [decide_eq_false hz]
      rfl
theorem toI_hit {wt ht : Nat → Bool} {p : Nat} (h : p < 64) : (fun z : Int => decide (z = ((p : Nat) : Int)) && toI wt ((p : Nat) : Int) || toI ht z) = toI (fun k => ht k || (decide (k = p) && wt p)) := by
  funext z
  rw [toI_page h]
  unfold toI
  by_cases hz : 0 ≤ z ∧ z < 64
  · rw [decide_eq_true hz, show decide (z = ((p : Nat) : Int)) = decide (z.toNat = p) from decide_eq_decide.2 (by omega)]
    dsimp only
    cases ht z.toNat <;> cases wt p <;> cases decide (z.toNat = p) <;> rfl
  · rw [decide_eq_false hz, decide_eq_false (fun e => hz (by omega))]
    simp
set_option maxHeartbeats 16000000 in
set_option maxRecDepth 100000 in
theorem ramActs_any (A0 : Option Addr) (n0 cap0 : Nat) (ws : Nat → Int) (A : Option Addr) (n cap : Nat) (l : List RActV) (w : World) (ea : Nat → Addr) (E : ErrsAll w ea) (hR : Reads w A0 n0 cap0 (fun i => .int .u32 (ws i))) (hc0 : cap0 ≤ 9223372036854775807) (hr : ∀ i, i < n0 → 0 ≤ ws i ∧ ws i < 4294967296) (V : RActsAt w A n cap l) (hc : cap ≤ 9223372036854775807) :
    Calls Tryd.prog 4 #[.slice A0 n0 cap0, .slice A n cap] w fun e w' => e = .returned (.bool true) ∧ Keeps (fun _ => False) w w' := by
  have HE := Lib.hid E
  have HV := Lib.hid V
  have HRD := Lib.hid hR
  have HWR := Lib.hid hr
  have hnc := V.le
  have hnc0 := hR.1
  have HST := Lib.hid (stored_any w)
  clear E V hR hr
  go_enter Tryd.func4, Tryd.ntmps4
  go_wp2_with fail
  refine (HST.out).mono ?_
  rintro e w1 ⟨rfl, hk1⟩
  have HK1 := Lib.hid hk1
  clear hk1
  by_cases h5 : 5000 < n0
  · have t1 : decide ((5000 : Int) < (n0 : Int)) = true := decide_eq_true (by omega)
    go_wp2_with fail
    go_ret
    exact ⟨rfl, HK1.out⟩
  have t1 : decide ((5000 : Int) < (n0 : Int)) = false := decide_eq_false (by omega)
  by_cases h60 : 60 < n
  · have t2 : decide ((60 : Int) < (n : Int)) = true := decide_eq_true (by omega)
    go_wp2_with fail
    go_ret
    exact ⟨rfl, HK1.out⟩
  have t2 : decide ((60 : Int) < (n : Int)) = false := decide_eq_false (by omega)
  have HNEW := Lib.hid (new_any n0 cap0 A0 w1 ws (HRD.out.keep HK1.out (fun _ _ _ h => h)) hc0 HWR.out)
  go_wp2_with fail
  refine (HNEW.out).mono ?_
  rintro e w2 ⟨rfl, hnr⟩
  have HNR := Lib.hid hnr
  have HK2 := Lib.hid (HK1.out.trans hnr.keeps (fun _ _ h => h))
  have HREF := Lib.hid (refNew_any n0 cap0 A0 w2 ws (HRD.out.keep HK2.out (fun _ _ _ h => h)) hc0 HWR.out)
  clear hnr t1 t2 h5
  go_wp2_with fail
  refine (HREF.out).mono ?_
  rintro e w3 ⟨q, wb, tb, hb, rfl, href, hlo, hk3⟩
  have HK3 := Lib.hid (HK2.out.trans hk3 (fun _ _ h => h))
  have HS0 := Lib.hid (show RSt w3 w.heap.size w2.heap.size (w1.heap.size + 3) w1.heap.size (w1.heap.size + 1) (w1.heap.size + 2) q wb tb hb 0 (ramOf (min n0 4096) ws) (fun _ => false) (fun _ => false) from by
    have h1 := HNR.out.size
    have h2 := HK1.out.size
    have h3 := HK2.out.size
    refine ⟨HNR.out.ram.keep hk3 (fun h => h) (fun h => h), ?_, ?_, href, ⟨by omega, by omega, by omega, by omega⟩, ⟨by omega, by omega, by omega, by omega⟩, hlo, h3⟩
    · rw [toI_none]
      exact (BMap.empty HNR.out.watch).keep hk3 (fun h => h)
    · rw [toI_none]
      exact (BMap.empty HNR.out.hits).keep hk3 (fun h => h))
  clear href hlo hk3
  generalize w1.heap.size + 3 = r at *
  generalize w1.heap.size + 1 = pw at *
  generalize w1.heap.size + 2 = ph at *
  generalize w1.heap.size = pb at *
  obtain ⟨X, hX⟩ : ∃ X, w2.heap.size = X := ⟨_, rfl⟩
  obtain ⟨B, hB⟩ : ∃ B, w.heap.size = B := ⟨_, rfl⟩
  rw [hX, hB] at HS0
  have HBE := Lib.hid hB
  clear hX hB
  go_wp2_with fail
  go_loopw [4, 8] (fun s4 s8 wr => ∃ (i : Nat) (m : Nat → Int) (wt ht : Nat → Bool), i ≤ n ∧ s8 = .int .i64 i ∧ s4 = .bool false ∧ RSt wr B X r pb pw ph q wb tb hb i m wt ht ∧ Keeps (fun _ => False) w wr) (fun _ s8 _ => n - (intOf s8).toNat)
  case atStart => exact ⟨0, _, _, _, by omega, rfl, rfl, HS0.out, HK3.out⟩
  case round =>
    obtain ⟨i, m, wt, ht, hi, rfl, rfl, hS, hK⟩ := hrel
    have HS := Lib.hid hS
    have HK := Lib.hid hK
    clear hS hK
    by_cases hlt : i < n
    · obtain ⟨ab, ao, rfl, ha⟩ := (HV.out.quiet HK.out).get hlt
      have hi63 : (i : Int) < n := by omega
      obtain ⟨a, haa⟩ : ∃ a, l.getD i ract0 = a := ⟨_, rfl⟩
      rw [haa] at ha
      clear haa
      have HI := Lib.hid (show i ≤ 60 from by omega)
      obtain ⟨e0, e1, e2, e3, e4, e5, e6, hrng⟩ := ha
      have HRG := Lib.hid hrng
      obtain ⟨kd, hkd⟩ : ∃ k, a.kind = k := ⟨_, rfl⟩
      obtain ⟨ad, had⟩ : ∃ k, a.addr = k := ⟨_, rfl⟩
      obtain ⟨sz, hsz⟩ : ∃ k, a.size = k := ⟨_, rfl⟩
      obtain ⟨sg, hsg⟩ : ∃ k, a.sg = k := ⟨_, rfl⟩
      obtain ⟨vv, hvv⟩ : ∃ k, a.v = k := ⟨_, rfl⟩
      obtain ⟨pg, hpg⟩ : ∃ k, a.page = k := ⟨_, rfl⟩
      obtain ⟨on, hon⟩ : ∃ k, a.on = k := ⟨_, rfl⟩
      rw [had, hvv, hsz, hpg] at HRG
      rw [hkd] at e0
      rw [had] at e1
      rw [hsz] at e2
      rw [hsg] at e3
      rw [hvv] at e4
      rw [hpg] at e5
      rw [hon] at e6
      obtain ⟨an, han⟩ := Int.eq_ofNat_of_zero_le HRG.out.1.1
      subst han
      clear hkd had hsz hsg hvv hpg hon hrng
      have HXB := Lib.hid (blk_alloc_new wr (.cells #[.string kd, .int .u32 an, .int .i64 sz, .bool sg, .int .u32 vv, .int .i64 pg, .bool on] 51))
      have HXK := Lib.hid ((Keeps.refl (fun _ => False) wr).alloc (.cells #[.string kd, .int .u32 an, .int .i64 sz, .bool sg, .int .u32 vv, .int .i64 pg, .bool on] 51))
      go_upto_block 2 with fail
      clear e0 e1 e2 e3 e4 e5 e6
      have HXL := Lib.hid (show B ≤ wr.heap.size from by have h1 := HK.out.size; have h2 := HBE.out; omega)
      have HXN := Lib.hid (show (wr.heap.size ≠ r ∧ wr.heap.size ≠ pb ∧ wr.heap.size ≠ pw ∧ wr.heap.size ≠ ph) ∧ wr.heap.size ≠ q ∧ wr.heap.size ≠ wb ∧ wr.heap.size ≠ tb ∧ wr.heap.size ≠ hb from by
        have h1 := HS.out.ram
        have a1 := (Array.getElem?_eq_some_iff.1 h1.box).1
        have a2 : pb < wr.heap.size := World.block_lt_of_cell? wr _ (h1.bytes.cell (i := 0) (by omega))
        have a3 := HS.out.wm.lt
        have a4 := HS.out.hm.lt
        have h2 := HS.out.ref.raw
        have b1 := (Array.getElem?_eq_some_iff.1 h2.box).1
        have b2 : wb < wr.heap.size := World.block_lt_of_cell? wr _ (h2.words.cell (i := 0) (by omega))
        have b3 : tb < wr.heap.size := World.block_lt_of_cell? wr _ (h2.watch.cell (i := 0) (by omega))
        have b4 : hb < wr.heap.size := World.block_lt_of_cell? wr _ (h2.hit.cell (i := 0) (by omega))
        exact ⟨⟨by omega, by omega, by omega, by omega⟩, by omega, by omega, by omega, by omega⟩)
      have HS1 := Lib.hid (HS.out.quiet HXK.out)
      have HKK := Lib.hid (HK.out.trans HXK.out (fun _ _ h => h))
      generalize wr.alloc _ = w4 at *
      generalize wr.heap.size = xb at *
      go_cut [4] (fun s4 wx => s4 = .bool false ∧ ∃ (m' : Nat → Int) (wt' ht' : Nat → Bool), RSt wx B X r pb pw ph q wb tb hb (i + 1) m' wt' ht' ∧ wx.heap[xb]? = some (.cells #[.string kd, .int .u32 an, .int .i64 sz, .bool sg, .int .u32 vv, .int .i64 pg, .bool on] 51 (0, 0)) ∧ Keeps (fun _ => False) w wx)
      case first =>
        have x0 : w4.cell? ⟨xb, 0, none⟩ = some (.string kd) := cell_atZ HXB.out 0
        have x1 : w4.cell? ⟨xb, 1, none⟩ = some (.int .u32 an) := cell_atZ HXB.out 1
        have x2 : w4.cell? ⟨xb, 2, none⟩ = some (.int .i64 sz) := cell_atZ HXB.out 2
        have x3 : w4.cell? ⟨xb, 3, none⟩ = some (.bool sg) := cell_atZ HXB.out 3
        have x4 : w4.cell? ⟨xb, 4, none⟩ = some (.int .u32 vv) := cell_atZ HXB.out 4
        have x5 : w4.cell? ⟨xb, 5, none⟩ = some (.int .i64 pg) := cell_atZ HXB.out 5
        have x6 : w4.cell? ⟨xb, 6, none⟩ = some (.bool on) := cell_atZ HXB.out 6
        cases hq1 : (kd.toList == ([108, 111, 97, 100] : List UInt8))
        · cases hq2 : (kd.toList == ([115, 116, 111, 114, 101] : List UInt8))
          · cases hq3 : (kd.toList == ([119, 97, 116, 99, 104] : List UInt8))
            · have HHB := Lib.hid (hitsB_any r pb pw ph 16384 i m ht w4 HS1.out.ram HS1.out.hm (by have := HI.out; omega))
              have HRH := Lib.hid (fun w5 (R : RefAt w5 q wb tb hb m wt ht) => rhits_any q wb tb hb m wt ht w5 R)
              have HBL := Lib.hid (show hb < w4.heap.size from World.block_lt_of_cell? w4 _ (HS1.out.ref.raw.hit.cell (i := 0) (by omega)))
              have HP := Lib.hid (RSt.phs HS1.out.lo)
              have HA := Lib.hid HS1.out.ram.apart
              go_wp2_with fail
              clear x0 x1 x2 x3 x4 x5 x6 hq1 hq2 hq3
              refine (HHB.out).mono ?_
              rintro e w5 ⟨v5, rfl, hz5, hm5, hk5⟩
              have HR5 := Lib.hid (HS1.out.ram.keep hk5 HA.out.2.2.1 HA.out.2.2.2.2.1)
              have HW5 := Lib.hid (HS1.out.wm.keep hk5 HA.out.2.2.2.2.2)
              have HF5 := Lib.hid (HS1.out.ref.keep hk5 HP.out.1)
              have HZ5 := Lib.hid hz5
              have HM5 := Lib.hid hm5
              have HX5 := Lib.hid ((hk5.block xb (Array.getElem?_eq_some_iff.1 HXB.out).1 HXN.out.1.2.2.2).trans HXB.out)
              have HK5 := Lib.hid (HKK.out.trans hk5 (fun b hb e => (HP.out.2.1 (by rw [← HBE.out, ← show b = ph from e]; exact hb)).elim))
              clear hz5 hm5 hk5
              go_wp2_with fail
              refine (HRH.out w5 HF5.out).mono ?_
              rintro e w6 ⟨v6, rfl, hz6, hf6, hk6⟩
              have HZ56 := Lib.hid (HZ5.out.keep hk6 (fun g hg e => by
                have e : g = hb := e
                have h1 := (HZ5.out.low g hg).1
                have h2 := HBL.out
                omega))
              obtain ⟨hn, hhn⟩ : ∃ x, (hitL ht).length = x := ⟨_, rfl⟩
              obtain ⟨A5, c5, hv5, _⟩ := id HZ56.out
              rw [hhn] at hv5
              subst hv5
              obtain ⟨A6, c6, hv6, _⟩ := id hz6
              rw [hhn] at hv6
              subst hv6
              clear hhn
              have HSM := Lib.hid (sameRows_any A5 A6 hn c5 c6 (fun i => (hitL ht).getD i 0) w6 HZ56.out.reads.2.2 hz6.reads.2.2 HZ56.out.reads.2.1 hz6.reads.2.1)
              have HS6 := Lib.hid (show RSt w6 B X r pb pw ph q wb tb hb (i + 1) m wt (fun _ => false) from ⟨HR5.out.keep hk6 HP.out.2.2.1 HP.out.2.2.2.1, (HW5.out.keep hk6 HP.out.2.2.2.2.1).more (Nat.le_succ i), by rw [toI_none]; exact (HM5.out.keep hk6 HP.out.2.2.2.2.2.1).more (Nat.zero_le _), hf6, HS1.out.lo⟩)
              have HX6 := Lib.hid ((hk6.block xb (Array.getElem?_eq_some_iff.1 HX5.out).1 HXN.out.2.2.2.2).trans HX5.out)
              have HK6 := Lib.hid (HK5.out.trans hk6 (fun b hb' e => (HP.out.2.2.2.2.2.2 (by rw [← HBE.out, ← show b = hb from e]; exact hb')).elim))
              clear hz6 hf6 hk6
              go_wp2_with fail
              refine (HSM.out).mono ?_
              rintro e w7 ⟨rfl, hk7⟩
              have HS7 := Lib.hid (HS6.out.quiet hk7)
              have HX7 := Lib.hid ((hk7.block xb (Array.getElem?_eq_some_iff.1 HX6.out).1 (fun h => h)).trans HX6.out)
              have HK7 := Lib.hid (HK6.out.trans hk7 (fun _ _ h => h))
              clear hk7
              go_wp2_with fail
              go_meet
              exact ⟨rfl, m, wt, _, HS7.out, HX7.out, HK7.out⟩
            · by_cases hpg : 0 ≤ pg ∧ pg < 64
              · obtain ⟨pn, hpn⟩ := Int.eq_ofNat_of_zero_le hpg.1
                subst hpn
                have hpl : pn < 64 := by omega
                have t1 : decide ((pn : Int) < 0) = false := decide_eq_false (by omega)
                have t2 : decide ((64 : Int) ≤ (pn : Int)) = false := decide_eq_false (by omega)
                have c1 : w4.cell? ⟨q, 1, none⟩ = some (.slice (some ⟨tb, 0, none⟩) 64 64) := by simp [World.cell?, HS1.out.ref.raw.box]
                have c3 := HS1.out.ref.raw.watch.cell (i := pn) (by omega)
                have c5 := HS1.out.ref.raw.watch.frozen pn
                have q1 : 0 ≤ (pn : Int) := by omega
                have q2 : (pn : Int) < 64 := by omega
                have q3 : ((pn : Int)).toNat = pn := by omega
                have HPL := Lib.hid hpl
                have HTN := Lib.hid (show xb ≠ tb from HXN.out.2.2.2.1)
                go_upto_region 27 with fail
                have hq4 := (Keeps.refl (fun _ => False) w4).drew
                have HSD := Lib.hid (HS1.out.quiet hq4)
                have hst := HSD.out.ref.setWatch pn on
                have HST := Lib.hid hst.1
                have HSK := Lib.hid hst.2
                have HXD := Lib.hid ((hq4.block xb (Array.getElem?_eq_some_iff.1 HXB.out).1 (fun h => h)).trans HXB.out)
                have HXT := Lib.hid ((hst.2.block xb (Array.getElem?_eq_some_iff.1 HXD.out).1 HTN.out).trans HXD.out)
                have HKD := Lib.hid (HKK.out.trans hq4 (fun _ _ h => h))
                clear hst hq4 t1 t2 hpg
                go_still_tail 9, (by kernel_rfl)
                change wpList _ _ _ _ _ w4.drew
                generalize w4.drew = w5 at *
                have d3 := HSD.out.ref.raw.watch.cell (i := pn) HPL.out
                have d5 := HSD.out.ref.raw.watch.frozen pn
                have HNT := Lib.hid (RSt.tbs HS1.out.lo)
                go_upto_region 28 with fail
                clear d3 d5 c1 c3 c5 x0 x1 x2 x3 x4 x5 x6
                have HR6 := Lib.hid (HSD.out.ram.keep HSK.out HNT.out.1 HNT.out.2.1)
                have HW6 := Lib.hid (HSD.out.wm.keep HSK.out HNT.out.2.2.1)
                have HH6 := Lib.hid (HSD.out.hm.keep HSK.out HNT.out.2.2.2.1)
                have HK6 := Lib.hid (HKD.out.trans HSK.out (fun b hb e => (HNT.out.2.2.2.2 (by rw [← HBE.out, ← show b = tb from e]; exact hb)).elim))
                clear HSK HSD HKD HXD
                generalize World.setCell w5 _ _ = w6 at *
                have y5 : w6.cell? ⟨xb, 5, none⟩ = some (.int .i64 (pn : Int)) := cell_atZ HXT.out 5
                have y6 : w6.cell? ⟨xb, 6, none⟩ = some (.bool on) := cell_atZ HXT.out 6
                have HWT := Lib.hid (watchB_any r pb pw ph 16384 i m (toI wt) (pn : Int) on w6 HR6.out HW6.out (by have := HI.out; omega) ⟨by omega, by have := HPL.out; omega⟩)
                go_wp2_with fail
                refine (HWT.out).mono ?_
                rintro e w7 ⟨rfl, hw7, hk7⟩
                have HP := Lib.hid (RSt.pws HS1.out.lo)
                have HA := Lib.hid HR6.out.apart
                have HS7 := Lib.hid (show RSt w7 B X r pb pw ph q wb tb hb (i + 1) m (fun p => if p = pn then on else wt p) ht from ⟨HR6.out.keep hk7 HA.out.2.1 HA.out.2.2.2.1, by rw [← toI_set HPL.out]; exact hw7, (HH6.out.keep hk7 (fun e => HA.out.2.2.2.2.2 e.symm)).more (Nat.le_succ i), HST.out.keep hk7 HP.out.1, HS1.out.lo⟩)
                have HX7 := Lib.hid ((hk7.block xb (Array.getElem?_eq_some_iff.1 HXT.out).1 HXN.out.1.2.2.1).trans HXT.out)
                have HK7 := Lib.hid (HK6.out.trans hk7 (fun b hb e => (HP.out.2 (by rw [← HBE.out, ← show b = pw from e]; exact hb)).elim))
                clear hw7 hk7 y5 y6
                go_wp2_with fail
                refine (coded2_nil _).mono ?_
                rintro e w8 ⟨rfl, hk8⟩
                have HS8 := Lib.hid (HS7.out.quiet hk8)
                have HX8 := Lib.hid ((hk8.block xb (Array.getElem?_eq_some_iff.1 HX7.out).1 (fun h => h)).trans HX7.out)
                have HK8 := Lib.hid (HK7.out.trans hk8 (fun _ _ h => h))
                clear hk8
                go_wp2_with fail
                go_meet
                exact ⟨rfl, m, _, ht, HS8.out, HX8.out, HK8.out⟩
              · have HWT := Lib.hid (watchB_bad ⟨r, 0, none⟩ pg on w4 ea ((HE.out.quiet HKK.out).cell 2 (by omega) (by omega)) hpg)
                have HCD := Lib.hid (show Calls Tryd.prog 16 #[errV ea 2, .int .i64 2] w4 (fun e w' => e = .returned (.bool true) ∧ Keeps (fun _ => False) w4 w') from coded2_err 2 (by omega) (by omega) w4 ea (HE.out.quiet HKK.out))
                obtain ⟨ev, hev⟩ : ∃ v, errV ea 2 = v := ⟨_, rfl⟩
                rw [hev] at HWT HCD
                clear hev
                have HFIN := Lib.hid (fun (w5 : World) (hk5 : Keeps (fun _ => False) w4 w5) => And.intro ((HS1.out.quiet hk5).more (Nat.le_succ i)) (And.intro ((hk5.block xb (Array.getElem?_eq_some_iff.1 HXB.out).1 (fun h => h)).trans HXB.out) (HKK.out.trans hk5 (fun _ _ h => h))))
                by_cases h1 : pg < 0
                · have t1 : decide (pg < 0) = true := decide_eq_true h1
                  clear hpg
                  go_wp2_with fail
                  refine (HWT.out).mono ?_
                  rintro e w' ⟨rfl, rfl⟩
                  go_wp2_with fail
                  refine (HCD.out).mono ?_
                  rintro e w5 ⟨rfl, hk5⟩
                  have HF := Lib.hid (HFIN.out w5 hk5)
                  clear hk5 x0 x1 x2 x3 x4 x5 x6
                  go_wp2_with fail
                  go_meet
                  exact ⟨rfl, m, wt, ht, HF.out.1, HF.out.2.1, HF.out.2.2⟩
                · have t1 : decide (pg < 0) = false := decide_eq_false h1
                  have t2 : decide (64 ≤ pg) = true := decide_eq_true (by omega)
                  clear hpg
                  go_wp2_with fail
                  refine (HWT.out).mono ?_
                  rintro e w' ⟨rfl, rfl⟩
                  go_wp2_with fail
                  refine (HCD.out).mono ?_
                  rintro e w5 ⟨rfl, hk5⟩
                  have HF := Lib.hid (HFIN.out w5 hk5)
                  clear hk5 x0 x1 x2 x3 x4 x5 x6
                  go_wp2_with fail
                  go_meet
                  exact ⟨rfl, m, wt, ht, HF.out.1, HF.out.2.1, HF.out.2.2⟩
          · go_wp2_with fail
            have HXS := Lib.hid (show ¬ (xb = pb ∨ xb = ph ∨ xb = wb ∨ xb = hb) from fun h => by
              rcases h with h | h | h | h
              · exact HXN.out.1.2.1 h
              · exact HXN.out.1.2.2.2 h
              · exact HXN.out.2.2.1 h
              · exact HXN.out.2.2.2.2 h)
            by_cases hok : rightC an sz = 0
            · obtain ⟨sn, hsn⟩ := Int.eq_ofNat_of_zero_le (show 0 ≤ sz by have := (rightC_ok hok).1; omega)
              subst hsn
              have HPG := Lib.hid (show an / 256 < 64 from by have := (rightC_ok hok).2.2; omega)
              have hq4 := (Keeps.refl (fun _ => False) w4).drew
              have HST2 := Lib.hid (HS1.out.quiet hq4)
              have HSB := Lib.hid (storeB_any r pb pw ph 16384 i i m (toI wt) (toI ht) an sn vv w4.drew HST2.out.ram HST2.out.wm HST2.out.hm (by have := HI.out; omega) HRG.out.2.1 hok)
              have HRS := Lib.hid (fun w5 (R : RefAt w5 q wb tb hb m wt ht) => rstore_ok q wb tb hb m wt ht an sn vv w5 R HRG.out.2.1 hok)
              clear hok
              refine wp_region_held_drew (S := fun w' => Keeps (fun b => b = pb ∨ b = ph ∨ b = wb ∨ b = hb) w4 w') (by kernel_rfl) (Keeps.refl _ w4).drew (fun hH0 => ?_)
              refine wpAnyH_take (i := 0) (v := ?_) rfl (by kernel_rfl) (by kernel_rfl) (by kernel_rfl) (fun _ _ _ h => h) (Or.inl ⟨by go_simp, ?_⟩) hH0 ?_
              rotate_left
              · intro w' hSw
                go_simp
                try with_reducible rfl
              simp only [Act.put, List.getElem_toArray, List.getElem_cons_zero, List.getElem_cons_succ, List.setIfInBounds_toArray, List.set_cons_zero, List.set_cons_succ]
              refine wpAnyH_take (i := 1) (v := ?_) rfl (by kernel_rfl) (by kernel_rfl) (by kernel_rfl) (fun _ _ _ h => h) (Or.inl ⟨by go_simp, ?_⟩) hH0 ?_
              rotate_left
              · intro w' hSw
                go_simp
                try with_reducible rfl
              simp only [Act.put, List.getElem_toArray, List.getElem_cons_zero, List.getElem_cons_succ, List.setIfInBounds_toArray, List.set_cons_zero, List.set_cons_succ]
              refine wpAnyH_take (i := 2) (v := ?_) rfl (by kernel_rfl) (by kernel_rfl) (by kernel_rfl) (fun _ _ _ h => h) (Or.inl ⟨by go_simp, ?_⟩) hH0 ?_
              rotate_left
              · intro w' hSw
                have q0 := Keeps.cell' hSw x1 HXS.out
                go_simp
                try with_reducible rfl
              simp only [Act.put, List.getElem_toArray, List.getElem_cons_zero, List.getElem_cons_succ, List.setIfInBounds_toArray, List.set_cons_zero, List.set_cons_succ]
              refine wpAnyH_take (i := 3) (v := ?_) rfl (by kernel_rfl) (by kernel_rfl) (by kernel_rfl) (fun _ _ _ h => h) (Or.inl ⟨by go_simp, ?_⟩) hH0 ?_
              rotate_left
              · intro w' hSw
                go_simp
                try with_reducible rfl
              simp only [Act.put, List.getElem_toArray, List.getElem_cons_zero, List.getElem_cons_succ, List.setIfInBounds_toArray, List.set_cons_zero, List.set_cons_succ]
              refine wpAnyH_take (i := 4) (v := ?_) rfl (by kernel_rfl) (by kernel_rfl) (by kernel_rfl) (fun _ _ _ h => h) (Or.inl ⟨by go_simp, ?_⟩) hH0 ?_
              rotate_left
              · intro w' hSw
                have q0 := Keeps.cell' hSw x2 HXS.out
                go_simp
                try with_reducible rfl
              simp only [Act.put, List.getElem_toArray, List.getElem_cons_zero, List.getElem_cons_succ, List.setIfInBounds_toArray, List.set_cons_zero, List.set_cons_succ]
              refine wpAnyH_take (i := 5) (v := ?_) rfl (by kernel_rfl) (by kernel_rfl) (by kernel_rfl) (fun _ _ _ h => h) (Or.inl ⟨by go_simp, ?_⟩) hH0 ?_
              rotate_left
              · intro w' hSw
                go_simp
                try with_reducible rfl
              simp only [Act.put, List.getElem_toArray, List.getElem_cons_zero, List.getElem_cons_succ, List.setIfInBounds_toArray, List.set_cons_zero, List.set_cons_succ]
              refine wpAnyH_take (i := 6) (v := ?_) rfl (by kernel_rfl) (by kernel_rfl) (by kernel_rfl) (fun _ _ _ h => h) (Or.inl ⟨by go_simp, ?_⟩) hH0 ?_
              rotate_left
              · intro w' hSw
                have q0 := Keeps.cell' hSw x4 HXS.out
                go_simp
                try with_reducible rfl
              simp only [Act.put, List.getElem_toArray, List.getElem_cons_zero, List.getElem_cons_succ, List.setIfInBounds_toArray, List.set_cons_zero, List.set_cons_succ]
              refine wpAnyH_take (i := 8) (v := ?_) rfl (by kernel_rfl) (by kernel_rfl) (by kernel_rfl) (fun _ _ _ h => h) (Or.inl ⟨by go_simp, ?_⟩) hH0 ?_
              rotate_left
              · intro w' hSw
                go_simp
                try with_reducible rfl
              simp only [Act.put, List.getElem_toArray, List.getElem_cons_zero, List.getElem_cons_succ, List.setIfInBounds_toArray, List.set_cons_zero, List.set_cons_succ]
              refine wpAnyH_take (i := 9) (v := ?_) rfl (by kernel_rfl) (by kernel_rfl) (by kernel_rfl) (fun _ _ _ h => h) (Or.inl ⟨by go_simp, ?_⟩) hH0 ?_
              rotate_left
              · intro w' hSw
                go_simp
                try with_reducible rfl
              simp only [Act.put, List.getElem_toArray, List.getElem_cons_zero, List.getElem_cons_succ, List.setIfInBounds_toArray, List.set_cons_zero, List.set_cons_succ]
              refine wpAnyH_take (i := 10) (v := ?_) rfl (by kernel_rfl) (by kernel_rfl) (by kernel_rfl) (fun _ _ _ h => h) (Or.inl ⟨by go_simp, ?_⟩) hH0 ?_
              rotate_left
              · intro w' hSw
                have q0 := Keeps.cell' hSw x1 HXS.out
                go_simp
                try with_reducible rfl
              simp only [Act.put, List.getElem_toArray, List.getElem_cons_zero, List.getElem_cons_succ, List.setIfInBounds_toArray, List.set_cons_zero, List.set_cons_succ]
              refine wpAnyH_take (i := 11) (v := ?_) rfl (by kernel_rfl) (by kernel_rfl) (by kernel_rfl) (fun _ _ _ h => h) (Or.inl ⟨by go_simp, ?_⟩) hH0 ?_
              rotate_left
              · intro w' hSw
                go_simp
                try with_reducible rfl
              simp only [Act.put, List.getElem_toArray, List.getElem_cons_zero, List.getElem_cons_succ, List.setIfInBounds_toArray, List.set_cons_zero, List.set_cons_succ]
              refine wpAnyH_take (i := 12) (v := ?_) rfl (by kernel_rfl) (by kernel_rfl) (by kernel_rfl) (fun _ _ _ h => h) (Or.inl ⟨by go_simp, ?_⟩) hH0 ?_
              rotate_left
              · intro w' hSw
                have q0 := Keeps.cell' hSw x2 HXS.out
                go_simp
                try with_reducible rfl
              simp only [Act.put, List.getElem_toArray, List.getElem_cons_zero, List.getElem_cons_succ, List.setIfInBounds_toArray, List.set_cons_zero, List.set_cons_succ]
              refine wpAnyH_take (i := 13) (v := ?_) rfl (by kernel_rfl) (by kernel_rfl) (by kernel_rfl) (fun _ _ _ h => h) (Or.inl ⟨by go_simp, ?_⟩) hH0 ?_
              rotate_left
              · intro w' hSw
                go_simp
                try with_reducible rfl
              simp only [Act.put, List.getElem_toArray, List.getElem_cons_zero, List.getElem_cons_succ, List.setIfInBounds_toArray, List.set_cons_zero, List.set_cons_succ]
              refine wpAnyH_take (i := 14) (v := ?_) rfl (by kernel_rfl) (by kernel_rfl) (by kernel_rfl) (fun _ _ _ h => h) (Or.inl ⟨by go_simp, ?_⟩) hH0 ?_
              rotate_left
              · intro w' hSw
                have q0 := Keeps.cell' hSw x4 HXS.out
                go_simp
                try with_reducible rfl
              simp only [Act.put, List.getElem_toArray, List.getElem_cons_zero, List.getElem_cons_succ, List.setIfInBounds_toArray, List.set_cons_zero, List.set_cons_succ]
              refine wpAnyH_ready (rs := [7]) (by kernel_rfl) (by simp) ?_
              refine AllReadyH.cons rfl (fun K hK => ?_) AllReadyH.nil
              go_simp
              refine (HSB.out).mono ?_
              rintro e w5 ⟨rfl, hr5, hw5, hh5, hk5⟩
              go_wp2_with fail
              have hH1 := hH0.trans (hk5.mono (T := fun b => b = pb ∨ b = ph ∨ b = wb ∨ b = hb) (fun b _ h => h.elim (fun h => .inl h) (fun h => .inr (.inl h)))) (fun _ _ h => h)
              have HR5 := Lib.hid hr5
              have HW5 := Lib.hid hw5
              have HH5 := Lib.hid hh5
              have HF5 := Lib.hid (HST2.out.ref.keep hk5 (RSt.far HS1.out.lo))
              have HK45 := Lib.hid ((hq4.mono (T := fun b => b = pb ∨ b = ph) (fun _ _ h => h.elim)).trans hk5 (fun _ _ h => h))
              clear hr5 hw5 hh5 hk5
              refine hK.out _ _ hH1 (fun _ => ?_)
              clear hK K
              try simp only [Act.put, List.getElem_toArray, List.getElem_cons_zero, List.getElem_cons_succ, List.setIfInBounds_toArray, List.set_cons_zero, List.set_cons_succ]
              refine wpAnyH_ready (rs := [15]) (by kernel_rfl) (by simp) ?_
              refine AllReadyH.cons rfl (fun K hK => ?_) AllReadyH.nil
              go_simp
              refine (HRS.out w5 HF5.out).mono ?_
              rintro e w6 ⟨rfl, hf6, hk6⟩
              go_wp2_with fail
              have hH2 := hH1.trans (hk6.mono (T := fun b => b = pb ∨ b = ph ∨ b = wb ∨ b = hb) (fun b _ h => .inr (.inr h))) (fun _ _ h => h)
              have hnr := RSt.near HS1.out.lo
              have HF6 := Lib.hid hf6
              have HR6 := Lib.hid (HR5.out.keep hk6 hnr.1 hnr.2.1)
              have HW6 := Lib.hid (HW5.out.keep hk6 hnr.2.2.1)
              have HH6 := Lib.hid (HH5.out.keep hk6 hnr.2.2.2)
              clear hf6 hnr hk6
              refine hK.out _ _ hH2 (fun _ => ?_)
              clear hK K
              try simp only [Act.put, List.getElem_toArray, List.getElem_cons_zero, List.getElem_cons_succ, List.setIfInBounds_toArray, List.set_cons_zero, List.set_cons_succ]
              refine wpAnyH_ready (rs := [16]) (by kernel_rfl) (by simp) ?_
              refine AllReadyH.cons rfl (fun K hK => ?_) AllReadyH.nil
              go_simp
              refine (coded2_nil _).mono ?_
              rintro e w7 ⟨rfl, hk7⟩
              go_wp2_with fail
              have hH3 := hH2.trans (hk7.mono (fun _ _ h => h.elim)) (fun _ _ h => h)
              have HS7 := Lib.hid (show RSt w7 B X r pb pw ph q wb tb hb (i + 1) (stTo m an sn vv sn) wt (fun p => ht p || (decide (p = an / 256) && wt (an / 256))) from RSt.quiet ⟨HR6.out, HW6.out.more (Nat.le_succ i), by rw [← toI_hit HPG.out]; exact HH6.out, HF6.out, HS1.out.lo⟩ hk7)
              have HX7 := Lib.hid ((hH3.block xb (Array.getElem?_eq_some_iff.1 HXB.out).1 HXS.out).trans HXB.out)
              have HK7 := Lib.hid (HKK.out.trans hH3 (fun b hb h => (RSt.fresh HS1.out.lo h) (by rw [← HBE.out]; exact hb)))
              clear hk7
              refine hK.out _ _ hH3 (fun _ => ?_)
              clear hK K
              try simp only [Act.put, List.getElem_toArray, List.getElem_cons_zero, List.getElem_cons_succ, List.setIfInBounds_toArray, List.set_cons_zero, List.set_cons_succ]
              refine wpAnyH_take (i := 17) (v := ?_) rfl (by kernel_rfl) (by kernel_rfl) (by kernel_rfl) (fun _ _ _ h => h) (Or.inl ⟨by go_simp, ?_⟩) hH3 ?_
              rotate_left
              · intro w' hSw
                go_simp
                try with_reducible rfl
              simp only [Act.put, List.getElem_toArray, List.getElem_cons_zero, List.getElem_cons_succ, List.setIfInBounds_toArray, List.set_cons_zero, List.set_cons_succ]
              refine wpAnyH_done (by kernel_rfl) ?_ _
              go_wp2_with fail
              go_meet
              exact ⟨rfl, _, _, _, HS7.out, HX7.out, HK7.out⟩
            · have HC := Lib.hid (rightC_rng hok)
              have HSB := Lib.hid (store_bad ⟨r, 0, none⟩ an sz vv w4.drew ea ((HE.out.quiet HKK.out).quiet ((Keeps.refl (fun _ => False) w4).drew)).three HRG.out.1 hok)
              have HRS := Lib.hid (rstore_bad ⟨q, 0, none⟩ an sz vv w4.drew HRG.out.1 HRG.out.2.2.1 hok)
              have HCD := Lib.hid (coded2_err (rightC an sz) HC.out.1 HC.out.2 w4.drew ea ((HE.out.quiet HKK.out).quiet ((Keeps.refl (fun _ => False) w4).drew)))
              obtain ⟨c, hcc⟩ : ∃ c, rightC an sz = c := ⟨_, rfl⟩
              rw [hcc] at HSB HRS HCD
              clear hcc hok
              refine wp_region_held_drew (S := fun w' => Keeps (fun b => b = pb ∨ b = ph ∨ b = wb ∨ b = hb) w4 w') (by kernel_rfl) (Keeps.refl _ w4).drew (fun hH0 => ?_)
              refine wpAnyH_take (i := 0) (v := ?_) rfl (by kernel_rfl) (by kernel_rfl) (by kernel_rfl) (fun _ _ _ h => h) (Or.inl ⟨by go_simp, ?_⟩) hH0 ?_
              rotate_left
              · intro w' hSw
                go_simp
                try with_reducible rfl
              simp only [Act.put, List.getElem_toArray, List.getElem_cons_zero, List.getElem_cons_succ, List.setIfInBounds_toArray, List.set_cons_zero, List.set_cons_succ]
              refine wpAnyH_take (i := 1) (v := ?_) rfl (by kernel_rfl) (by kernel_rfl) (by kernel_rfl) (fun _ _ _ h => h) (Or.inl ⟨by go_simp, ?_⟩) hH0 ?_
              rotate_left
              · intro w' hSw
                go_simp
                try with_reducible rfl
              simp only [Act.put, List.getElem_toArray, List.getElem_cons_zero, List.getElem_cons_succ, List.setIfInBounds_toArray, List.set_cons_zero, List.set_cons_succ]
              refine wpAnyH_take (i := 2) (v := ?_) rfl (by kernel_rfl) (by kernel_rfl) (by kernel_rfl) (fun _ _ _ h => h) (Or.inl ⟨by go_simp, ?_⟩) hH0 ?_
              rotate_left
              · intro w' hSw
                have q0 := Keeps.cell' hSw x1 HXS.out
                go_simp
                try with_reducible rfl
              simp only [Act.put, List.getElem_toArray, List.getElem_cons_zero, List.getElem_cons_succ, List.setIfInBounds_toArray, List.set_cons_zero, List.set_cons_succ]
              refine wpAnyH_take (i := 3) (v := ?_) rfl (by kernel_rfl) (by kernel_rfl) (by kernel_rfl) (fun _ _ _ h => h) (Or.inl ⟨by go_simp, ?_⟩) hH0 ?_
              rotate_left
              · intro w' hSw
                go_simp
                try with_reducible rfl
              simp only [Act.put, List.getElem_toArray, List.getElem_cons_zero, List.getElem_cons_succ, List.setIfInBounds_toArray, List.set_cons_zero, List.set_cons_succ]
              refine wpAnyH_take (i := 4) (v := ?_) rfl (by kernel_rfl) (by kernel_rfl) (by kernel_rfl) (fun _ _ _ h => h) (Or.inl ⟨by go_simp, ?_⟩) hH0 ?_
              rotate_left
              · intro w' hSw
                have q0 := Keeps.cell' hSw x2 HXS.out
                go_simp
                try with_reducible rfl
              simp only [Act.put, List.getElem_toArray, List.getElem_cons_zero, List.getElem_cons_succ, List.setIfInBounds_toArray, List.set_cons_zero, List.set_cons_succ]
              refine wpAnyH_take (i := 5) (v := ?_) rfl (by kernel_rfl) (by kernel_rfl) (by kernel_rfl) (fun _ _ _ h => h) (Or.inl ⟨by go_simp, ?_⟩) hH0 ?_
              rotate_left
              · intro w' hSw
                go_simp
                try with_reducible rfl
              simp only [Act.put, List.getElem_toArray, List.getElem_cons_zero, List.getElem_cons_succ, List.setIfInBounds_toArray, List.set_cons_zero, List.set_cons_succ]
              refine wpAnyH_take (i := 6) (v := ?_) rfl (by kernel_rfl) (by kernel_rfl) (by kernel_rfl) (fun _ _ _ h => h) (Or.inl ⟨by go_simp, ?_⟩) hH0 ?_
              rotate_left
              · intro w' hSw
                have q0 := Keeps.cell' hSw x4 HXS.out
                go_simp
                try with_reducible rfl
              simp only [Act.put, List.getElem_toArray, List.getElem_cons_zero, List.getElem_cons_succ, List.setIfInBounds_toArray, List.set_cons_zero, List.set_cons_succ]
              refine wpAnyH_take (i := 8) (v := ?_) rfl (by kernel_rfl) (by kernel_rfl) (by kernel_rfl) (fun _ _ _ h => h) (Or.inl ⟨by go_simp, ?_⟩) hH0 ?_
              rotate_left
              · intro w' hSw
                go_simp
                try with_reducible rfl
              simp only [Act.put, List.getElem_toArray, List.getElem_cons_zero, List.getElem_cons_succ, List.setIfInBounds_toArray, List.set_cons_zero, List.set_cons_succ]
              refine wpAnyH_take (i := 9) (v := ?_) rfl (by kernel_rfl) (by kernel_rfl) (by kernel_rfl) (fun _ _ _ h => h) (Or.inl ⟨by go_simp, ?_⟩) hH0 ?_
              rotate_left
              · intro w' hSw
                go_simp
                try with_reducible rfl
              simp only [Act.put, List.getElem_toArray, List.getElem_cons_zero, List.getElem_cons_succ, List.setIfInBounds_toArray, List.set_cons_zero, List.set_cons_succ]
              refine wpAnyH_take (i := 10) (v := ?_) rfl (by kernel_rfl) (by kernel_rfl) (by kernel_rfl) (fun _ _ _ h => h) (Or.inl ⟨by go_simp, ?_⟩) hH0 ?_
              rotate_left
              · intro w' hSw
                have q0 := Keeps.cell' hSw x1 HXS.out
                go_simp
                try with_reducible rfl
              simp only [Act.put, List.getElem_toArray, List.getElem_cons_zero, List.getElem_cons_succ, List.setIfInBounds_toArray, List.set_cons_zero, List.set_cons_succ]
              refine wpAnyH_take (i := 11) (v := ?_) rfl (by kernel_rfl) (by kernel_rfl) (by kernel_rfl) (fun _ _ _ h => h) (Or.inl ⟨by go_simp, ?_⟩) hH0 ?_
              rotate_left
              · intro w' hSw
                go_simp
                try with_reducible rfl
              simp only [Act.put, List.getElem_toArray, List.getElem_cons_zero, List.getElem_cons_succ, List.setIfInBounds_toArray, List.set_cons_zero, List.set_cons_succ]
              refine wpAnyH_take (i := 12) (v := ?_) rfl (by kernel_rfl) (by kernel_rfl) (by kernel_rfl) (fun _ _ _ h => h) (Or.inl ⟨by go_simp, ?_⟩) hH0 ?_
              rotate_left
              · intro w' hSw
                have q0 := Keeps.cell' hSw x2 HXS.out
                go_simp
                try with_reducible rfl
              simp only [Act.put, List.getElem_toArray, List.getElem_cons_zero, List.getElem_cons_succ, List.setIfInBounds_toArray, List.set_cons_zero, List.set_cons_succ]
              refine wpAnyH_take (i := 13) (v := ?_) rfl (by kernel_rfl) (by kernel_rfl) (by kernel_rfl) (fun _ _ _ h => h) (Or.inl ⟨by go_simp, ?_⟩) hH0 ?_
              rotate_left
              · intro w' hSw
                go_simp
                try with_reducible rfl
              simp only [Act.put, List.getElem_toArray, List.getElem_cons_zero, List.getElem_cons_succ, List.setIfInBounds_toArray, List.set_cons_zero, List.set_cons_succ]
              refine wpAnyH_take (i := 14) (v := ?_) rfl (by kernel_rfl) (by kernel_rfl) (by kernel_rfl) (fun _ _ _ h => h) (Or.inl ⟨by go_simp, ?_⟩) hH0 ?_
              rotate_left
              · intro w' hSw
                have q0 := Keeps.cell' hSw x4 HXS.out
                go_simp
                try with_reducible rfl
              simp only [Act.put, List.getElem_toArray, List.getElem_cons_zero, List.getElem_cons_succ, List.setIfInBounds_toArray, List.set_cons_zero, List.set_cons_succ]
              refine wpAnyH_ready (rs := [7]) (by kernel_rfl) (by simp) ?_
              refine AllReadyH.cons rfl (fun K hK => ?_) AllReadyH.nil
              go_simp
              refine (HSB.out).mono ?_
              rintro e w' ⟨rfl, rfl⟩
              go_wp2_with fail
              refine hK.out _ _ hH0 (fun _ => ?_)
              clear hK K
              try simp only [Act.put, List.getElem_toArray, List.getElem_cons_zero, List.getElem_cons_succ, List.setIfInBounds_toArray, List.set_cons_zero, List.set_cons_succ]
              refine wpAnyH_ready (rs := [15]) (by kernel_rfl) (by simp) ?_
              refine AllReadyH.cons rfl (fun K hK => ?_) AllReadyH.nil
              go_simp
              refine (HRS.out).mono ?_
              rintro e w' ⟨rfl, rfl⟩
              go_wp2_with fail
              refine hK.out _ _ hH0 (fun _ => ?_)
              clear hK K
              try simp only [Act.put, List.getElem_toArray, List.getElem_cons_zero, List.getElem_cons_succ, List.setIfInBounds_toArray, List.set_cons_zero, List.set_cons_succ]
              refine wpAnyH_ready (rs := [16]) (by kernel_rfl) (by simp) ?_
              refine AllReadyH.cons rfl (fun K hK => ?_) AllReadyH.nil
              go_simp
              refine (HCD.out).mono ?_
              rintro e w7 ⟨rfl, hk7⟩
              go_wp2_with fail
              have hH3 := hH0.trans (hk7.mono (fun _ _ h => h.elim)) (fun _ _ h => h)
              have hk47 := ((Keeps.refl (fun _ => False) w4).drew).trans hk7 (fun _ _ h => h)
              have HS7 := Lib.hid ((HS1.out.quiet hk47).more (Nat.le_succ i))
              have HX7 := Lib.hid ((hk47.block xb (Array.getElem?_eq_some_iff.1 HXB.out).1 (fun h => h)).trans HXB.out)
              have HK7 := Lib.hid (HKK.out.trans hk47 (fun _ _ h => h))
              clear hk7 hk47
              refine hK.out _ _ hH3 (fun _ => ?_)
              clear hK K
              try simp only [Act.put, List.getElem_toArray, List.getElem_cons_zero, List.getElem_cons_succ, List.setIfInBounds_toArray, List.set_cons_zero, List.set_cons_succ]
              refine wpAnyH_take (i := 17) (v := ?_) rfl (by kernel_rfl) (by kernel_rfl) (by kernel_rfl) (fun _ _ _ h => h) (Or.inl ⟨by go_simp, ?_⟩) hH3 ?_
              rotate_left
              · intro w' hSw
                go_simp
                try with_reducible rfl
              simp only [Act.put, List.getElem_toArray, List.getElem_cons_zero, List.getElem_cons_succ, List.setIfInBounds_toArray, List.set_cons_zero, List.set_cons_succ]
              refine wpAnyH_done (by kernel_rfl) ?_ _
              go_wp2_with fail
              go_meet
              exact ⟨rfl, m, wt, ht, HS7.out, HX7.out, HK7.out⟩
        · by_cases hok : rightC an sz = 0
          · obtain ⟨sn, hsn⟩ := Int.eq_ofNat_of_zero_le (show 0 ≤ sz by have := (rightC_ok hok).1; omega)
            subst hsn
            have HLD := Lib.hid (load_ok r pb pw ph 16384 m an sn sg w4 HS1.out.ram hok)
            have HRL := Lib.hid (rload_ok q wb tb hb m wt ht an sn sg w4 HS1.out.ref hok)
            obtain ⟨z, hz⟩ : ∃ z, Wd.wide (be m an sn) (8 * (sn : Int)) sg = z := ⟨_, rfl⟩
            rw [hz] at HLD HRL
            clear hz hok
            go_wp2_with fail
            refine (HLD.out).mono ?_
            rintro e w' ⟨rfl, rfl⟩
            go_wp2_with fail
            refine (HRL.out).mono ?_
            rintro e w' ⟨rfl, rfl⟩
            go_wp2_with fail
            refine (coded2_nil _).mono ?_
            rintro e w5 ⟨rfl, hk5⟩
            have HS5 := Lib.hid ((HS1.out.quiet hk5).more (Nat.le_succ i))
            have HX5 := Lib.hid ((hk5.block xb (Array.getElem?_eq_some_iff.1 HXB.out).1 (fun h => h)).trans HXB.out)
            have HK5 := Lib.hid (HKK.out.trans hk5 (fun _ _ h => h))
            clear hk5 x0 x1 x2 x3 x4 x5 x6
            go_wp2_with fail
            go_meet
            exact ⟨rfl, m, wt, ht, HS5.out, HX5.out, HK5.out⟩
          · have HC := Lib.hid (rightC_rng hok)
            have HLD := Lib.hid (load_bad ⟨r, 0, none⟩ an sz sg w4 ea (HE.out.quiet HKK.out).three HRG.out.1 hok)
            have HRL := Lib.hid (rload_bad ⟨q, 0, none⟩ an sz sg w4 HRG.out.1 HRG.out.2.2.1 hok)
            have HCD := Lib.hid (coded2_err (rightC an sz) HC.out.1 HC.out.2 w4 ea (HE.out.quiet HKK.out))
            obtain ⟨c, hcc⟩ : ∃ c, rightC an sz = c := ⟨_, rfl⟩
            rw [hcc] at HLD HRL HCD
            clear hcc hok
            go_wp2_with fail
            refine (HLD.out).mono ?_
            rintro e w' ⟨rfl, rfl⟩
            go_wp2_with fail
            refine (HRL.out).mono ?_
            rintro e w' ⟨rfl, rfl⟩
            go_wp2_with fail
            refine (HCD.out).mono ?_
            rintro e w5 ⟨rfl, hk5⟩
            have HS5 := Lib.hid ((HS1.out.quiet hk5).more (Nat.le_succ i))
            have HX5 := Lib.hid ((hk5.block xb (Array.getElem?_eq_some_iff.1 HXB.out).1 (fun h => h)).trans HXB.out)
            have HK5 := Lib.hid (HKK.out.trans hk5 (fun _ _ h => h))
            clear hk5 x0 x1 x2 x3 x4 x5 x6
            go_wp2_with fail
            go_meet
            exact ⟨rfl, m, wt, ht, HS5.out, HX5.out, HK5.out⟩
      case rest =>
        obtain ⟨rfl, m2, wt2, ht2, hS2, hx2, hk2⟩ := hcut
        have HS2 := Lib.hid hS2
        have HK2' := Lib.hid hk2
        have y1 : wc.cell? ⟨xb, 1, none⟩ = some (.int .u32 an) := cell_atZ hx2 1
        clear hS2 hk2 hx2
        have hanb : (an : Int) < 4294967296 := HRG.out.1.2
        have HAN := Lib.hid hanb
        have HWD := Lib.hid (watchedB_any r pb pw ph 16384 (i + 1) m2 (toI wt2) (an : Int) wc HS2.out.ram HS2.out.wm ⟨by omega, hanb⟩)
        by_cases hpp : an / 256 < 64
        · have HTW := Lib.hid (show toI wt2 ((an : Int) / 256) = wt2 (an / 256) from toI_page hpp)
          have c1 : wc.cell? ⟨q, 1, none⟩ = some (.slice (some ⟨tb, 0, none⟩) 64 64) := by simp [World.cell?, HS2.out.ref.raw.box]
          have c3 := HS2.out.ref.raw.watch.cell (i := an / 256) hpp
          rw [HTW.out] at HWD
          obtain ⟨p, hp⟩ : ∃ p, an / 256 = p := ⟨_, rfl⟩
          rw [hp] at hpp c3 HWD
          have HPE := Lib.hid hp
          obtain ⟨b, hb'⟩ : ∃ b, wt2 p = b := ⟨_, rfl⟩
          rw [hb'] at c3 HWD
          clear hp hb'
          go_upto_region 32 with fail
          rw [show ((an : Int) / 256) = (p : Int) from by have := HPE.out; omega]
          have ppl : decide ((p : Int) < 64) = true := decide_eq_true (by omega)
          go_wp2_with fail
          refine (HWD.out).mono ?_
          rintro e w' ⟨rfl, rfl⟩
          go_wp2_with fail
          go_roundw
          case rel => exact ⟨i + 1, m2, wt2, ht2, by omega, by go_num, rfl, HS2.out, HK2'.out⟩
          case measure => simp [intOf]; omega
        · have HTW := Lib.hid (show toI wt2 ((an : Int) / 256) = false from toI_far (by omega))
          rw [HTW.out] at HWD
          obtain ⟨p, hp⟩ : ∃ p, an / 256 = p := ⟨_, rfl⟩
          rw [hp] at hpp
          have HPE := Lib.hid hp
          clear hp
          go_upto_region 32 with fail
          rw [show ((an : Int) / 256) = (p : Int) from by have := HPE.out; omega]
          have ppl : decide ((p : Int) < 64) = false := decide_eq_false (by omega)
          go_wp2_with fail
          refine (HWD.out).mono ?_
          rintro e w' ⟨rfl, rfl⟩
          go_wp2_with fail
          go_roundw
          case rel => exact ⟨i + 1, m2, wt2, ht2, by omega, by go_num, rfl, HS2.out, HK2'.out⟩
          case measure => simp [intOf]; omega
    · obtain rfl : i = n := by omega
      obtain ⟨es, cw, hw1, HWC'⟩ := HS.out.wm.copy
      obtain ⟨eh, ch, hh1, hhc⟩ := HS.out.hm.copy
      have HHC := Lib.hid hhc
      have HCP := Lib.hid (copy_any r pb pw ph 16384 m es eh cw ch wr HS.out.ram hw1 hh1)
      clear hw1 hh1 hhc HWC'
      go_wp2_with fail
      refine (HCP.out).mono ?_
      rintro e w8 ⟨xr, xpb, xpw, xph, xcp, rfl, hxr, hxw, hxh, hxl, hk8⟩
      have HX8 := Lib.hid hxr
      have HXH := Lib.hid (HHC.out w8 xph hxh)
      have HS8 := Lib.hid (HS.out.quiet hk8)
      have HK8 := Lib.hid (HK.out.trans hk8 (fun _ _ h => h))
      have HPL := Lib.hid (show ph < w8.heap.size from HS8.out.hm.lt)
      have HXA := Lib.hid hxr.apart
      have HLOW := Lib.hid (show B ≤ ph ∧ B ≤ xph from by
        have h1 := HS.out.lo.1.2.2.2
        have h2 := hxl.2.2.2
        have h3 := HK.out.size
        have h4 := HBE.out
        omega)
      have HNX := Lib.hid (show ((q ≠ xph ∧ wb ≠ xph) ∧ (r ≠ xph ∧ pb ≠ xph ∧ ph ≠ xph)) from by
        have h2 := HS.out.ref.raw
        have b1 := (Array.getElem?_eq_some_iff.1 h2.box).1
        have b2 : wb < wr.heap.size := World.block_lt_of_cell? wr _ (h2.words.cell (i := 0) (by omega))
        have h1 := HS.out.ram
        have a1 := (Array.getElem?_eq_some_iff.1 h1.box).1
        have a2 : pb < wr.heap.size := World.block_lt_of_cell? wr _ (h1.bytes.cell (i := 0) (by omega))
        have a4 := HS.out.hm.lt
        have h3 := hxl.2.2.2
        exact ⟨⟨by omega, by omega⟩, by omega, by omega, by omega⟩)
      have HNQ := Lib.hid (show ¬ (q = ph ∨ q = xph) from fun h => h.elim (RSt.phs HS8.out.lo).1.1 HNX.out.1.1)
      have c0q : w8.cell? ⟨q, 0, none⟩ = some (.slice (some ⟨wb, 0, none⟩) 4096 4096) := by simp [World.cell?, HS8.out.ref.raw.box]
      clear hxr hxw hxh hxl hk8
      have HWA := Lib.hid (fun w' (k : Keeps (fun _ => False) w8 w') => (words_any r pb pw ph 16384 m w' (HS8.out.ram.keep k (fun h => h) (fun h => h))).mono (fun e w9 h => show ∃ g, e = .returned (.slice (some ⟨g, 0, none⟩) 4096 4096) ∧ w9.rowIs g 29 4096 (fun k => .int .u32 (be m (4 * k) 4)) ∧ Keeps (fun _ => False) w' w9 from ⟨_, h⟩))
      have HWX := Lib.hid (fun w' (k : Keeps (fun _ => False) w8 w') => (words_any xr xpb xpw xph xcp m w' (HX8.out.keep k (fun h => h) (fun h => h))).mono (fun e w9 h => show ∃ g, e = .returned (.slice (some ⟨g, 0, none⟩) 4096 4096) ∧ w9.rowIs g 29 4096 (fun k => .int .u32 (be m (4 * k) 4)) ∧ Keeps (fun _ => False) w' w9 from ⟨_, h⟩))
      have HAL := Lib.hid (fun w' g (k : Keeps (fun _ => False) w8 w') (hr : w'.rowIs g 29 4096 (fun k => .int .u32 (be m (4 * k) 4))) => alike_same g wb 4096 4096 4096 (fun k => be m (4 * k) 4) w' (by omega) (by omega) (by omega) (fun i hi => hr.cell hi) (fun i hi => (k.rowTo HS8.out.ref.raw.words (fun h => h)).cell hi))
      have HHX := Lib.hid (fun w' (k : Keeps (fun _ => False) w8 w') => (hitsB_any xr xpb xpw xph xcp i m ht w' (HX8.out.keep k (fun h => h) (fun h => h)) (HXH.out.keep k (fun h => h)) (by omega)).mono (fun e w9 h => show ∃ v, e = .returned v ∧ ZRow w9 w'.heap.size (hitL ht) v ∧ Keeps (fun b => b = xph) w' w9 from by
        obtain ⟨v, h1, h2, h3, h4⟩ := h
        exact ⟨v, h1, h2, h4⟩))
      have HHR := Lib.hid (fun w12 w13 (k : Keeps (fun _ => False) w8 w12) (k2 : Keeps (fun b => b = xph) w12 w13) => (hitsB_any r pb pw ph 16384 i m ht w13 ((HS8.out.ram.keep k (fun h => h) (fun h => h)).keep k2 HNX.out.2.1 HNX.out.2.2.1) ((HS8.out.hm.keep k (fun h => h)).keep k2 HNX.out.2.2.2) (by omega)).mono (fun e w9 h => show ∃ v, e = .returned v ∧ ZRow w9 w13.heap.size (hitL ht) v ∧ Keeps (fun b => b = ph) w13 w9 from by
        obtain ⟨v, h1, h2, h3, h4⟩ := h
        exact ⟨v, h1, h2, h4⟩))
      go_upto_region 37 with fail
      refine wp_region_held_drew (S := fun w' => Keeps (fun b => b = ph ∨ b = xph) w8 w') (by kernel_rfl) (Keeps.refl _ w8).drew (fun hH0 => ?_)
      refine wpAnyH_take (i := 0) (v := ?_) rfl (by kernel_rfl) (by kernel_rfl) (by kernel_rfl) (fun _ _ _ h => h) (Or.inl ⟨by go_simp, ?_⟩) hH0 ?_
      rotate_left
      · intro w' hSw
        go_simp
        try with_reducible rfl
      simp only [Act.put, List.getElem_toArray, List.getElem_cons_zero, List.getElem_cons_succ, List.setIfInBounds_toArray, List.set_cons_zero, List.set_cons_succ]
      refine wpAnyH_take (i := 1) (v := ?_) rfl (by kernel_rfl) (by kernel_rfl) (by kernel_rfl) (fun _ _ _ h => h) (Or.inl ⟨by go_simp, ?_⟩) hH0 ?_
      rotate_left
      · intro w' hSw
        go_simp
        try with_reducible rfl
      simp only [Act.put, List.getElem_toArray, List.getElem_cons_zero, List.getElem_cons_succ, List.setIfInBounds_toArray, List.set_cons_zero, List.set_cons_succ]
      refine wpAnyH_take (i := 2) (v := ?_) rfl (by kernel_rfl) (by kernel_rfl) (by kernel_rfl) (fun _ _ _ h => h) (Or.inl ⟨by go_simp, ?_⟩) hH0 ?_
      rotate_left
      · intro w' hSw
        go_simp
        try with_reducible rfl
      simp only [Act.put, List.getElem_toArray, List.getElem_cons_zero, List.getElem_cons_succ, List.setIfInBounds_toArray, List.set_cons_zero, List.set_cons_succ]
      refine wpAnyH_take (i := 3) (v := ?_) rfl (by kernel_rfl) (by kernel_rfl) (by kernel_rfl) (fun _ _ _ h => h) (Or.inl ⟨by go_simp, ?_⟩) hH0 ?_
      rotate_left
      · intro w' hSw
        go_simp
        try with_reducible rfl
      simp only [Act.put, List.getElem_toArray, List.getElem_cons_zero, List.getElem_cons_succ, List.setIfInBounds_toArray, List.set_cons_zero, List.set_cons_succ]
      refine wpAnyH_take (i := 5) (v := ?_) rfl (by kernel_rfl) (by kernel_rfl) (by kernel_rfl) (fun _ _ _ h => h) (Or.inl ⟨by go_simp, ?_⟩) hH0 ?_
      rotate_left
      · intro w' hSw
        go_simp
        try with_reducible rfl
      simp only [Act.put, List.getElem_toArray, List.getElem_cons_zero, List.getElem_cons_succ, List.setIfInBounds_toArray, List.set_cons_zero, List.set_cons_succ]
      refine wpAnyH_take (i := 6) (v := ?_) rfl (by kernel_rfl) (by kernel_rfl) (by kernel_rfl) (fun _ _ _ h => h) (Or.inl ⟨by go_simp, ?_⟩) hH0 ?_
      rotate_left
      · intro w' hSw
        go_simp
        try with_reducible rfl
      simp only [Act.put, List.getElem_toArray, List.getElem_cons_zero, List.getElem_cons_succ, List.setIfInBounds_toArray, List.set_cons_zero, List.set_cons_succ]
      refine wpAnyH_take (i := 7) (v := ?_) rfl (by kernel_rfl) (by kernel_rfl) (by kernel_rfl) (fun _ _ _ h => h) (Or.inl ⟨by go_simp, ?_⟩) hH0 ?_
      rotate_left
      · intro w' hSw
        go_simp
        try with_reducible rfl
      simp only [Act.put, List.getElem_toArray, List.getElem_cons_zero, List.getElem_cons_succ, List.setIfInBounds_toArray, List.set_cons_zero, List.set_cons_succ]
      refine wpAnyH_take (i := 8) (v := ?_) rfl (by kernel_rfl) (by kernel_rfl) (by kernel_rfl) (fun _ _ _ h => h) (Or.inl ⟨by go_simp, ?_⟩) hH0 ?_
      rotate_left
      · intro w' hSw
        have q0 := Keeps.cell' hSw c0q HNQ.out
        go_simp
        try with_reducible rfl
      simp only [Act.put, List.getElem_toArray, List.getElem_cons_zero, List.getElem_cons_succ, List.setIfInBounds_toArray, List.set_cons_zero, List.set_cons_succ]
      refine wpAnyH_ready (rs := [4]) (by kernel_rfl) (by simp) ?_
      refine AllReadyH.cons rfl (fun K hK => ?_) AllReadyH.nil
      go_simp
      refine (HWA.out _ ((Keeps.refl (fun _ => False) w8).drew)).mono ?_
      rintro e w9 ⟨g9, rfl, hrow9, hk9⟩
      go_wp2_with fail
      have hH1 := hH0.trans (hk9.mono (T := fun b => b = ph ∨ b = xph) (fun _ _ h => h.elim)) (fun _ _ h => h)
      have HK9 := Lib.hid (((Keeps.refl (fun _ => False) w8).drew).trans hk9 (fun _ _ h => h))
      have HROW9 := Lib.hid hrow9
      clear hrow9
      refine hK.out _ _ hH1 (fun _ => ?_)
      clear hK K
      try simp only [Act.put, List.getElem_toArray, List.getElem_cons_zero, List.getElem_cons_succ, List.setIfInBounds_toArray, List.set_cons_zero, List.set_cons_succ]
      refine wpAnyH_ready (rs := [9]) (by kernel_rfl) (by simp) ?_
      refine AllReadyH.cons rfl (fun K hK => ?_) AllReadyH.nil
      go_simp
      refine (HAL.out w9 g9 HK9.out HROW9.out).mono ?_
      rintro e w10 ⟨rfl, hk10⟩
      go_wp2_with fail
      have hH2 := hH1.trans (hk10.mono (T := fun b => b = ph ∨ b = xph) (fun _ _ h => h.elim)) (fun _ _ h => h)
      have HK10 := Lib.hid (HK9.out.trans hk10 (fun _ _ h => h))
      refine hK.out _ _ hH2 (fun _ => ?_)
      clear hK K
      try simp only [Act.put, List.getElem_toArray, List.getElem_cons_zero, List.getElem_cons_succ, List.setIfInBounds_toArray, List.set_cons_zero, List.set_cons_succ]
      refine wpAnyH_take (i := 10) (v := ?_) rfl (by kernel_rfl) (by kernel_rfl) (by kernel_rfl) (fun _ _ _ h => h) (Or.inl ⟨by go_simp, ?_⟩) hH2 ?_
      rotate_left
      · intro w' hSw
        go_simp
        try with_reducible rfl
      simp only [Act.put, List.getElem_toArray, List.getElem_cons_zero, List.getElem_cons_succ, List.setIfInBounds_toArray, List.set_cons_zero, List.set_cons_succ]
      refine wpAnyH_take (i := 11) (v := ?_) rfl (by kernel_rfl) (by kernel_rfl) (by kernel_rfl) (fun _ _ _ h => h) (Or.inl ⟨by go_simp, ?_⟩) hH2 ?_
      rotate_left
      · intro w' hSw
        go_simp
        try with_reducible rfl
      simp only [Act.put, List.getElem_toArray, List.getElem_cons_zero, List.getElem_cons_succ, List.setIfInBounds_toArray, List.set_cons_zero, List.set_cons_succ]
      refine wpAnyH_take (i := 12) (v := ?_) rfl (by kernel_rfl) (by kernel_rfl) (by kernel_rfl) (fun _ _ _ h => h) (Or.inl ⟨by go_simp, ?_⟩) hH2 ?_
      rotate_left
      · intro w' hSw
        go_simp
        try with_reducible rfl
      simp only [Act.put, List.getElem_toArray, List.getElem_cons_zero, List.getElem_cons_succ, List.setIfInBounds_toArray, List.set_cons_zero, List.set_cons_succ]
      refine wpAnyH_take (i := 13) (v := ?_) rfl (by kernel_rfl) (by kernel_rfl) (by kernel_rfl) (fun _ _ _ h => h) (Or.inl ⟨by go_simp, ?_⟩) hH2 ?_
      rotate_left
      · intro w' hSw
        go_simp
        try with_reducible rfl
      simp only [Act.put, List.getElem_toArray, List.getElem_cons_zero, List.getElem_cons_succ, List.setIfInBounds_toArray, List.set_cons_zero, List.set_cons_succ]
      refine wpAnyH_take (i := 15) (v := ?_) rfl (by kernel_rfl) (by kernel_rfl) (by kernel_rfl) (fun _ _ _ h => h) (Or.inl ⟨by go_simp, ?_⟩) hH2 ?_
      rotate_left
      · intro w' hSw
        go_simp
        try with_reducible rfl
      simp only [Act.put, List.getElem_toArray, List.getElem_cons_zero, List.getElem_cons_succ, List.setIfInBounds_toArray, List.set_cons_zero, List.set_cons_succ]
      refine wpAnyH_take (i := 16) (v := ?_) rfl (by kernel_rfl) (by kernel_rfl) (by kernel_rfl) (fun _ _ _ h => h) (Or.inl ⟨by go_simp, ?_⟩) hH2 ?_
      rotate_left
      · intro w' hSw
        go_simp
        try with_reducible rfl
      simp only [Act.put, List.getElem_toArray, List.getElem_cons_zero, List.getElem_cons_succ, List.setIfInBounds_toArray, List.set_cons_zero, List.set_cons_succ]
      refine wpAnyH_take (i := 17) (v := ?_) rfl (by kernel_rfl) (by kernel_rfl) (by kernel_rfl) (fun _ _ _ h => h) (Or.inl ⟨by go_simp, ?_⟩) hH2 ?_
      rotate_left
      · intro w' hSw
        go_simp
        try with_reducible rfl
      simp only [Act.put, List.getElem_toArray, List.getElem_cons_zero, List.getElem_cons_succ, List.setIfInBounds_toArray, List.set_cons_zero, List.set_cons_succ]
      refine wpAnyH_take (i := 18) (v := ?_) rfl (by kernel_rfl) (by kernel_rfl) (by kernel_rfl) (fun _ _ _ h => h) (Or.inl ⟨by go_simp, ?_⟩) hH2 ?_
      rotate_left
      · intro w' hSw
        have q0 := Keeps.cell' hSw c0q HNQ.out
        go_simp
        try with_reducible rfl
      simp only [Act.put, List.getElem_toArray, List.getElem_cons_zero, List.getElem_cons_succ, List.setIfInBounds_toArray, List.set_cons_zero, List.set_cons_succ]
      refine wpAnyH_ready (rs := [14]) (by kernel_rfl) (by simp) ?_
      refine AllReadyH.cons rfl (fun K hK => ?_) AllReadyH.nil
      go_simp
      refine (HWX.out w10 HK10.out).mono ?_
      rintro e w11 ⟨g11, rfl, hrow11, hk11⟩
      go_wp2_with fail
      have hH3 := hH2.trans (hk11.mono (T := fun b => b = ph ∨ b = xph) (fun _ _ h => h.elim)) (fun _ _ h => h)
      have HK11 := Lib.hid (HK10.out.trans hk11 (fun _ _ h => h))
      have HROW11 := Lib.hid hrow11
      clear hrow11
      refine hK.out _ _ hH3 (fun _ => ?_)
      clear hK K
      try simp only [Act.put, List.getElem_toArray, List.getElem_cons_zero, List.getElem_cons_succ, List.setIfInBounds_toArray, List.set_cons_zero, List.set_cons_succ]
      refine wpAnyH_ready (rs := [19]) (by kernel_rfl) (by simp) ?_
      refine AllReadyH.cons rfl (fun K hK => ?_) AllReadyH.nil
      go_simp
      refine (HAL.out w11 g11 HK11.out HROW11.out).mono ?_
      rintro e w12 ⟨rfl, hk12⟩
      go_wp2_with fail
      have hH4 := hH3.trans (hk12.mono (T := fun b => b = ph ∨ b = xph) (fun _ _ h => h.elim)) (fun _ _ h => h)
      have HK12 := Lib.hid (HK11.out.trans hk12 (fun _ _ h => h))
      refine hK.out _ _ hH4 (fun _ => ?_)
      clear hK K
      try simp only [Act.put, List.getElem_toArray, List.getElem_cons_zero, List.getElem_cons_succ, List.setIfInBounds_toArray, List.set_cons_zero, List.set_cons_succ]
      refine wpAnyH_take (i := 20) (v := ?_) rfl (by kernel_rfl) (by kernel_rfl) (by kernel_rfl) (fun _ _ _ h => h) (Or.inl ⟨by go_simp, ?_⟩) hH4 ?_
      rotate_left
      · intro w' hSw
        go_simp
        try with_reducible rfl
      simp only [Act.put, List.getElem_toArray, List.getElem_cons_zero, List.getElem_cons_succ, List.setIfInBounds_toArray, List.set_cons_zero, List.set_cons_succ]
      refine wpAnyH_take (i := 21) (v := ?_) rfl (by kernel_rfl) (by kernel_rfl) (by kernel_rfl) (fun _ _ _ h => h) (Or.inl ⟨by go_simp, ?_⟩) hH4 ?_
      rotate_left
      · intro w' hSw
        go_simp
        try with_reducible rfl
      simp only [Act.put, List.getElem_toArray, List.getElem_cons_zero, List.getElem_cons_succ, List.setIfInBounds_toArray, List.set_cons_zero, List.set_cons_succ]
      refine wpAnyH_take (i := 22) (v := ?_) rfl (by kernel_rfl) (by kernel_rfl) (by kernel_rfl) (fun _ _ _ h => h) (Or.inl ⟨by go_simp, ?_⟩) hH4 ?_
      rotate_left
      · intro w' hSw
        go_simp
        try with_reducible rfl
      simp only [Act.put, List.getElem_toArray, List.getElem_cons_zero, List.getElem_cons_succ, List.setIfInBounds_toArray, List.set_cons_zero, List.set_cons_succ]
      refine wpAnyH_take (i := 23) (v := ?_) rfl (by kernel_rfl) (by kernel_rfl) (by kernel_rfl) (fun _ _ _ h => h) (Or.inl ⟨by go_simp, ?_⟩) hH4 ?_
      rotate_left
      · intro w' hSw
        go_simp
        try with_reducible rfl
      simp only [Act.put, List.getElem_toArray, List.getElem_cons_zero, List.getElem_cons_succ, List.setIfInBounds_toArray, List.set_cons_zero, List.set_cons_succ]
      refine wpAnyH_take (i := 25) (v := ?_) rfl (by kernel_rfl) (by kernel_rfl) (by kernel_rfl) (fun _ _ _ h => h) (Or.inl ⟨by go_simp, ?_⟩) hH4 ?_
      rotate_left
      · intro w' hSw
        go_simp
        try with_reducible rfl
      simp only [Act.put, List.getElem_toArray, List.getElem_cons_zero, List.getElem_cons_succ, List.setIfInBounds_toArray, List.set_cons_zero, List.set_cons_succ]
      refine wpAnyH_ready (rs := [24]) (by kernel_rfl) (by simp) ?_
      refine AllReadyH.cons rfl (fun K hK => ?_) AllReadyH.nil
      go_simp
      refine (HHX.out w12 HK12.out).mono ?_
      rintro e w13 ⟨v13, rfl, hz13, hk13⟩
      go_wp2_with fail
      have hH5 := hH4.trans (hk13.mono (T := fun b => b = ph ∨ b = xph) (fun _ _ h => .inr h)) (fun _ _ h => h)
      have HZ13 := Lib.hid hz13
      have HK13 := Lib.hid hk13
      have HPL13 := Lib.hid (show ph < w12.heap.size from Nat.lt_of_lt_of_le HPL.out HK12.out.size)
      clear hz13
      refine hK.out _ _ hH5 (fun _ => ?_)
      clear hK K
      try simp only [Act.put, List.getElem_toArray, List.getElem_cons_zero, List.getElem_cons_succ, List.setIfInBounds_toArray, List.set_cons_zero, List.set_cons_succ]
      refine wpAnyH_ready (rs := [26]) (by kernel_rfl) (by simp) ?_
      refine AllReadyH.cons rfl (fun K hK => ?_) AllReadyH.nil
      go_simp
      refine (HHR.out w12 w13 HK12.out HK13.out).mono ?_
      rintro e w14 ⟨v14, rfl, hz14, hk14⟩
      go_wp2_with fail
      have hH6 := hH5.trans (hk14.mono (T := fun b => b = ph ∨ b = xph) (fun _ _ h => .inl h)) (fun _ _ h => h)
      have HZ14 := Lib.hid (HZ13.out.keep hk14 (fun g hg e => by
        have e : g = ph := e
        have h1 := (HZ13.out.low g hg).1
        have h2 := HPL13.out
        omega))
      obtain ⟨hn, hhn⟩ : ∃ x, (hitL ht).length = x := ⟨_, rfl⟩
      obtain ⟨A5, c5, hv5, _⟩ := id HZ14.out
      rw [hhn] at hv5
      subst hv5
      obtain ⟨A6, c6, hv6, _⟩ := id hz14
      rw [hhn] at hv6
      subst hv6
      clear hhn
      have HSM := Lib.hid (sameRows_any A5 A6 hn c5 c6 (fun i => (hitL ht).getD i 0) w14 HZ14.out.reads.2.2 hz14.reads.2.2 HZ14.out.reads.2.1 hz14.reads.2.1)
      clear hz14
      refine hK.out _ _ hH6 (fun _ => ?_)
      clear hK K
      try simp only [Act.put, List.getElem_toArray, List.getElem_cons_zero, List.getElem_cons_succ, List.setIfInBounds_toArray, List.set_cons_zero, List.set_cons_succ]
      refine wpAnyH_ready (rs := [27]) (by kernel_rfl) (by simp) ?_
      refine AllReadyH.cons rfl (fun K hK => ?_) AllReadyH.nil
      go_simp
      refine (HSM.out).mono ?_
      rintro e w15 ⟨rfl, hk15⟩
      go_wp2_with fail
      have hH7 := hH6.trans (hk15.mono (T := fun b => b = ph ∨ b = xph) (fun _ _ h => h.elim)) (fun _ _ h => h)
      refine hK.out _ _ hH7 (fun _ => ?_)
      clear hK K
      try simp only [Act.put, List.getElem_toArray, List.getElem_cons_zero, List.getElem_cons_succ, List.setIfInBounds_toArray, List.set_cons_zero, List.set_cons_succ]
      refine wpAnyH_take (i := 28) (v := ?_) rfl (by kernel_rfl) (by kernel_rfl) (by kernel_rfl) (fun _ _ _ h => h) (Or.inl ⟨by go_simp, ?_⟩) hH7 ?_
      rotate_left
      · intro w' hSw
        go_simp
        try with_reducible rfl
      simp only [Act.put, List.getElem_toArray, List.getElem_cons_zero, List.getElem_cons_succ, List.setIfInBounds_toArray, List.set_cons_zero, List.set_cons_succ]
      refine wpAnyH_take (i := 29) (v := ?_) rfl (by kernel_rfl) (by kernel_rfl) (by kernel_rfl) (fun _ _ _ h => h) (Or.inl ⟨by go_simp, ?_⟩) hH7 ?_
      rotate_left
      · intro w' hSw
        go_simp
        try with_reducible rfl
      simp only [Act.put, List.getElem_toArray, List.getElem_cons_zero, List.getElem_cons_succ, List.setIfInBounds_toArray, List.set_cons_zero, List.set_cons_succ]
      refine wpAnyH_done (by kernel_rfl) ?_ _
      have HKF := Lib.hid (HK8.out.trans hH7 (fun b hb h => by
        have h1 := HLOW.out.1
        have h2 := HLOW.out.2
        have h3 := HBE.out
        rcases h with h | h <;> omega))
      go_wp2_with fail
      go_ret
      exact ⟨rfl, HKF.out⟩
end Go.Proofs.YtlmnmncdoiealaaDoor
