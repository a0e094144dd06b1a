/- The walk of the reference's Hits. -/
import Derived.Test.YtlmnmncdoiealaaDoorBMap
import Derived.Test.YtlmnmncdoiealaaDoorRefPutD
namespace Go.Proofs.YtlmnmncdoiealaaDoor
open Go.RowKit Go.Deep
set_option linter.unusedVariables false
set_option linter.unusedSimpArgs false

theorem cell_atZ {w : World} {b : Nat} {cs : Array Value} {T : TypeId} {v : Value} (h : w.heap[b]? = some (.cells cs T (0, 0))) (i : Nat) (e : cs[i]? = some v := by rfl) : w.cell? ⟨b, i, none⟩ = some v := by
  unfold World.cell?
  rw [h]
  simpa using e
def hitTo (f : Nat → Bool) (i : Nat) : List Int := ((List.range i).filter f).map fun (p : Nat) => (p : Int)
theorem hitTo_succ (f : Nat → Bool) (i : Nat) : hitTo f (i + 1) = if f i then hitTo f i ++ [(i : Int)] else hitTo f i := by
  unfold hitTo
  rw [List.range_succ, List.filter_append, List.map_append]
  cases h : f i <;> simp [h]
theorem hitTo_len (f : Nat → Bool) (i : Nat) : (hitTo f i).length ≤ i := by
  unfold hitTo
  rw [List.length_map]
  have := List.length_filter_le f (List.range i)
  rwa [List.length_range] at this
/-- the marks from i on -/
def hitFrom (f : Nat → Bool) (i : Nat) : Nat → Bool := fun k => decide (i ≤ k) && f k
theorem RefAt.setHit {w : World} {q wb tb hb : Nat} {m : Nat → Int} {wt ht : Nat → Bool} (R : RefAt w q wb tb hb m wt ht) (i : Nat) (x : Bool) : RefAt (w.setCell ⟨hb, i, none⟩ (.bool x)) q wb tb hb m wt (fun p => if p = i then x else ht p) ∧ Keeps (fun k => k = hb) w (w.setCell ⟨hb, i, none⟩ (.bool x)) := by
  have k := Keeps.setCell (S := (· = hb)) (Keeps.refl _ w) (a := ⟨hb, i, none⟩) (fun _ => rfl) (.bool x)
  obtain ⟨a1, a2, a3, a4, a5, a6⟩ := R.raw.apart
  refine ⟨⟨⟨(k.block q (Array.getElem?_eq_some_iff.1 R.raw.box).1 a3).trans R.raw.box, k.rowTo R.raw.words a5, k.rowTo R.raw.watch a6, (R.raw.hit.set i _).congr (fun j _ => ?_), R.raw.apart⟩, R.rng⟩, k⟩
  split <;> rfl
theorem RefAt.setWatch {w : World} {q wb tb hb : Nat} {m : Nat → Int} {wt ht : Nat → Bool} (R : RefAt w q wb tb hb m wt ht) (i : Nat) (x : Bool) : RefAt (w.setCell ⟨tb, i, none⟩ (.bool x)) q wb tb hb m (fun p => if p = i then x else wt p) ht ∧ Keeps (fun k => k = tb) w (w.setCell ⟨tb, i, none⟩ (.bool x)) := by
  have k := Keeps.setCell (S := (· = tb)) (Keeps.refl _ w) (a := ⟨tb, i, none⟩) (fun _ => rfl) (.bool x)
  obtain ⟨a1, a2, a3, a4, a5, a6⟩ := R.raw.apart
  refine ⟨⟨⟨(k.block q (Array.getElem?_eq_some_iff.1 R.raw.box).1 a2).trans R.raw.box, k.rowTo R.raw.words a4, (R.raw.watch.set i _).congr (fun j _ => ?_), k.rowTo R.raw.hit (fun e => a6 e.symm), R.raw.apart⟩, R.rng⟩, k⟩
  split <;> rfl
theorem RefAt.congrB {w : World} {q wb tb hb : Nat} {m : Nat → Int} {wt wt' ht ht' : Nat → Bool} (R : RefAt w q wb tb hb m wt ht) (e1 : ∀ i, i < 64 → wt i = wt' i) (e2 : ∀ i, i < 64 → ht i = ht' i) : RefAt w q wb tb hb m wt' ht' :=
  ⟨⟨R.raw.box, R.raw.words, R.raw.watch.congr (fun i hi => by rw [e1 i hi]), R.raw.hit.congr (fun i hi => by rw [e2 i hi]), R.raw.apart⟩, R.rng⟩
set_option maxHeartbeats 2000000 in
set_option maxRecDepth 100000 in
theorem rhits_any (q wb tb hb : Nat) (m : Nat → Int) (wt ht : Nat → Bool) (w : World) (R : RefAt w q wb tb hb m wt ht) :
    Calls Tryd.prog 22 #[.pointer (some ⟨q, 0, none⟩)] w fun e w' => ∃ v, e = .returned v ∧ ZRow w' w.heap.size (hitL ht) v ∧ RefAt w' q wb tb hb m wt (fun _ => false) ∧ Keeps (fun b => b = hb) w w' := by
  have HR0 := Lib.hid R
  have HBL := Lib.hid (show hb < w.heap.size from by
    have := R.raw.hit
    exact World.block_lt_of_cell? w _ (R.raw.hit.cell (i := 0) (by omega)))
  have HQL := Lib.hid (show q < w.heap.size ∧ wb < w.heap.size ∧ tb < w.heap.size from ⟨(Array.getElem?_eq_some_iff.1 R.raw.box).1, World.block_lt_of_cell? w _ (R.raw.words.cell (i := 0) (by omega)), World.block_lt_of_cell? w _ (R.raw.watch.cell (i := 0) (by omega))⟩)
  obtain ⟨B, hB⟩ : ∃ B, w.heap.size = B := ⟨_, rfl⟩
  have HBE := Lib.hid hB
  rw [hB] at HBL HQL ⊢
  clear R hB
  go_enter Tryd.func22, Tryd.ntmps22
  go_wp2_with fail
  go_loopw [3, 4] (fun s3 s4 wr => ∃ i : Nat, i ≤ 64 ∧ s4 = .int .i64 i ∧ ZRow wr B (hitTo ht i) s3 ∧ RefAt wr q wb tb hb m wt (hitFrom ht i) ∧ Keeps (fun b => b = hb) w wr) (fun _ s4 _ => 64 - (intOf s4).toNat)
  case atStart => exact ⟨0, by omega, rfl, ZRow.nil _ _, HR0.out.congrB (fun _ _ => rfl) (fun i _ => by simp [hitFrom]), Keeps.refl _ _⟩
  case round =>
    obtain ⟨i, hi, rfl, hZ, hR, hK⟩ := hrel
    have HZ := Lib.hid hZ
    have HR := Lib.hid hR
    have HK := Lib.hid hK
    clear hZ hR hK
    by_cases hlt : i < 64
    · have c2 : wr.cell? ⟨q, 2, none⟩ = some (.slice (some ⟨hb, 0, none⟩) 64 64) := by simp [World.cell?, HR.out.raw.box]
      have c4 := HR.out.raw.hit.cell (i := i) (by omega)
      have hfi : hitFrom ht i i = ht i := by simp [hitFrom]
      rw [hfi] at c4
      clear hfi
      cases hh : ht i
      · rw [hh] at c4
        have HH := Lib.hid hh
        clear hh
        go_wp2_with fail
        go_roundw
        case rel => exact ⟨i + 1, by omega, by go_num, by rw [hitTo_succ, HH.out]; exact HZ.out, HR.out.congrB (fun _ _ => rfl) (fun k _ => by
          unfold hitFrom
          by_cases e : k = i
          · subst e
            rw [HH.out, Bool.and_false, Bool.and_false]
          · rw [show decide (i ≤ k) = decide (i + 1 ≤ k) from decide_eq_decide.2 (by omega)]), HK.out⟩
        case measure => simp [intOf]; omega
      · rw [hh] at c4
        have HH := Lib.hid hh
        clear hh
        obtain ⟨A3, c3, hv3, _⟩ := id HZ.out
        obtain ⟨n3, hn3⟩ : ∃ x, (hitTo ht i).length = x := ⟨_, rfl⟩
        rw [hn3] at hv3
        subst hv3
        have HN3 := Lib.hid (show (hitTo ht i).length ≤ 1000000 from by have := hitTo_len ht i; omega)
        clear hn3
        have HKA := Lib.hid ((Keeps.refl (fun _ => False) wr).alloc (.cells #[.int .i64 (i : Int)] 3))
        have HCN := Lib.hid (fun j u hj => cells_new wr [.int .i64 (i : Int)] 3 j u hj)
        have HZA := Lib.hid (HZ.out.quiet HKA.out)
        have HBS := Lib.hid (show B ≤ (wr.alloc (.cells #[.int .i64 (i : Int)] 3)).heap.size from by
          have h1 := HK.out.size
          have h2 := HKA.out.size
          have h3 := HBE.out
          omega)
        have HLOW := Lib.hid (HZ.out.low)
        go_wp2_with (at_builtin; go_loud (refine wpList_append_z rfl _ _ rfl B (hitTo ht i) (.slice A3 n3 c3) rfl HZA.out wr.heap.size (i : Int) rfl HCN.out HN3.out HBS.out ?c0))
        case c0 =>
          intro v' w4 hown hk4
          obtain ⟨A5, c5, hv5, _⟩ := id hown
          obtain ⟨n5, hn5⟩ : ∃ x, (hitTo ht i ++ [(i : Int)]).length = x := ⟨_, rfl⟩
          rw [hn5] at hv5
          subst hv5
          clear hn5
          have hk5 := (HKA.out.mono (T := fun k => (Value.slice A3 n3 c3).ownBlock = some k) (fun _ _ h => h.elim)).trans hk4 (fun _ _ h => h)
          have hno : ∀ b, b < B → ¬ (Value.slice A3 n3 c3).ownBlock = some b := fun b hb h => by
            have := (HLOW.out b h).1
            omega
          have HR4 := Lib.hid (HR.out.keep hk5 ⟨hno q HQL.out.1, hno wb HQL.out.2.1, hno tb HQL.out.2.2, hno hb HBL.out⟩)
          have HK4 := Lib.hid (show Keeps (fun b => b = hb) w w4 from HK.out.trans hk5 (fun b hb h => (hno b (by have := HBE.out; omega) h).elim))
          have HZ4 := Lib.hid hown
          have hst := HR4.out.setHit i false
          have HST := Lib.hid hst.1
          have HZS := Lib.hid (HZ4.out.keep hst.2 (fun g hg e => by
            have e : g = hb := e
            have h1 := (HZ4.out.low g hg).1
            have h2 := HBL.out
            omega))
          have HKS := Lib.hid (HK4.out.trans hst.2 (fun _ _ h => h))
          have d2 : w4.cell? ⟨q, 2, none⟩ = some (.slice (some ⟨hb, 0, none⟩) 64 64) := by simp [World.cell?, HR4.out.raw.box]
          have d4 := HR4.out.raw.hit.cell (i := i) (by omega)
          have d5 := HR4.out.raw.hit.frozen i
          clear hown hk4 hk5 hno hst c2 c4
          go_wp2_with fail
          clear d2 d4 d5
          generalize World.setCell w4 _ _ = w5 at *
          go_roundw
          case rel => exact ⟨i + 1, by omega, by go_num, by rw [hitTo_succ, HH.out]; exact HZS.out, HST.out.congrB (fun _ _ => rfl) (fun k _ => by
            unfold hitFrom
            by_cases e : k = i
            · subst e
              rw [if_pos rfl, decide_eq_false (by omega)]
              rfl
            · rw [if_neg e, show decide (i ≤ k) = decide (i + 1 ≤ k) from decide_eq_decide.2 (by omega)]), HKS.out⟩
          case measure => simp [intOf]; omega
    · obtain rfl : i = 64 := by omega
      go_wp2_with fail
      go_ret
      exact ⟨_, rfl, HZ.out, HR.out.congrB (fun _ _ => rfl) (fun k hk => by unfold hitFrom; rw [decide_eq_false (by omega)]; rfl), HK.out⟩
end Go.Proofs.YtlmnmncdoiealaaDoor
