import Derived.Test.YtknhfobcejpmeaaGreatDoorRunDefs
import Derived.Test.YtknhfobcejpmeaaGreatDoorIrOp
import Derived.Test.YtknhfobcejpmeaaGreatDoorRefPutD
import Derived.Test.YtknhfobcejpmeaaGreatDoorHrz01
import Derived.Laws.Rows
import Derived.Test.YtknhfobcejpmeaaGreatDoorRefNewD
import Derived.Test.YtknhfobcejpmeaaGreatDoorMach

/- ResDefs -/
/- What the reference's ResultOf answers, as it lies. -/
namespace Go.Proofs.YtknhfobcejpmeaaGreatDoor
open Go.RowKit Go.Deep
set_option linter.unusedVariables false
set_option linter.unusedSimpArgs false

/-- registers' cells; a result's cells -/
def regL (X : Nat → Int) : List Value := (List.range 64).map fun k => .int .u32 (X k)
def resC (r : Ir.RRes) : Array Value := #[.int .u32 r.v, .int .u32 r.addr, .bool r.trap, .bool r.leave]
theorem size_res : (Tryz.prog.info? 130).map (·.size) = some 4 := by kernel_rfl
/-- a result in a block of its own -/
structure ResBox (w : World) (x : Nat) (r : Ir.RRes) : Prop where
  blk : w.heap[x]? = some (.cells (resC r) 130 (0, 0))
theorem ResBox.lt {w : World} {x : Nat} {r : Ir.RRes} (h : ResBox w x r) : x < w.heap.size := (Array.getElem?_eq_some_iff.1 h.blk).1
theorem ResBox.keep {S : Nat → Prop} {w w' : World} {x : Nat} {r : Ir.RRes} (h : ResBox w x r) (k : Keeps S w w') (hs : ¬ S x) : ResBox w' x r := ⟨(k.block x h.lt hs).trans h.blk⟩
theorem ResBox.cells {w : World} {x : Nat} {r : Ir.RRes} (h : ResBox w x r) :
    (w.cell? ⟨x, 0, none⟩ = some (.int .u32 r.v) ∧ w.cell? ⟨x, 1, none⟩ = some (.int .u32 r.addr) ∧ w.cell? ⟨x, 2, none⟩ = some (.bool r.trap) ∧ w.cell? ⟨x, 3, none⟩ = some (.bool r.leave)) ∧
    w.frozen? ⟨x, 0, none⟩ = false ∧ w.frozen? ⟨x, 1, none⟩ = false ∧ w.frozen? ⟨x, 2, none⟩ = false ∧ w.frozen? ⟨x, 3, none⟩ = false := by
  refine ⟨⟨?_, ?_, ?_, ?_⟩, frozen_of_block h.blk 0, frozen_of_block h.blk 1, frozen_of_block h.blk 2, frozen_of_block h.blk 3⟩ <;> (unfold World.cell?; rw [h.blk]; rfl)
theorem ResBox.new (w : World) (r : Ir.RRes) : ResBox (w.alloc (.cells (resC r) 130)) w.heap.size r := ⟨blk_alloc_new _ _⟩
theorem ResBox.put {w : World} {x : Nat} {r r' : Ir.RRes} (h : ResBox w x r) :
    ResBox ((((w.setCell ⟨x, 0, none⟩ (.int .u32 r'.v)).setCell ⟨x, 1, none⟩ (.int .u32 r'.addr)).setCell ⟨x, 2, none⟩ (.bool r'.trap)).setCell ⟨x, 3, none⟩ (.bool r'.leave)) x r' ∧
    Keeps (· = x) w ((((w.setCell ⟨x, 0, none⟩ (.int .u32 r'.v)).setCell ⟨x, 1, none⟩ (.int .u32 r'.addr)).setCell ⟨x, 2, none⟩ (.bool r'.trap)).setCell ⟨x, 3, none⟩ (.bool r'.leave)) := by
  refine ⟨⟨?_⟩, Keeps.trans (Keeps.trans (Keeps.trans (Keeps.one _ _ _ _) (Keeps.one _ _ _ _) (fun _ _ h => h)) (Keeps.one _ _ _ _) (fun _ _ h => h)) (Keeps.one _ _ _ _) (fun _ _ h => h)⟩
  have h1 := set_block (set_block (set_block (set_block h.blk 0 (.int .u32 r'.v)) 1 (.int .u32 r'.addr)) 2 (.bool r'.trap)) 3 (.bool r'.leave)
  simpa [resC] using h1
/-- where ResultOf stands when its boxes are made -/
structure ResOpen (w w3 : World) (x y z : Nat) (X : Nat → Int) (o : Ir.Op) : Prop where
  regs : ∀ i, i < 64 → w3.cell? ⟨x, i, none⟩ = some (.int .u32 (X i))
  op : OpAt w3 y o
  box : ResBox w3 z ⟨0, 0, false, false⟩
  k : Keeps (fun _ => False) w w3
  new : w.heap.size ≤ z
theorem ResOpen.keep {w w3 w4 : World} {x y z : Nat} {X : Nat → Int} {o : Ir.Op} (h : ResOpen w w3 x y z X o) (k : Keeps (fun _ => False) w3 w4) : ResOpen w w4 x y z X o :=
  ⟨fun i hi => k.cell' (h.regs i hi) (fun f => f), h.op.keep k (fun f => f), h.box.keep k (fun f => f), h.k.trans k (fun _ _ h => h), h.new⟩
theorem regs_at (w : World) (X : Nat → Int) (T : TypeId) (i : Nat) (hi : i < 64) : (w.alloc (.cells (regL X).toArray T)).cell? ⟨w.heap.size, i, none⟩ = some (.int .u32 (X i)) := by
  unfold World.cell?
  rw [blk_alloc_new]
  simp [regL, hi]
theorem res_open (w : World) (X : Nat → Int) (k : ByteArray) (d a b im t : Int) (T1 T2 : TypeId) :
    ResOpen w (((w.alloc (.cells (regL X).toArray T1)).alloc (.cells #[.string k, .int .i64 d, .int .i64 a, .int .i64 b, .int .u32 im, .int .i64 t] T2)).alloc (.cells #[.int .u32 0, .int .u32 0, .bool false, .bool false] 130))
      w.heap.size (w.heap.size + 1) (w.heap.size + 1 + 1) X ⟨k, d, a, b, im, t⟩ := by
  have k1 := (Keeps.refl (fun _ => False) w).alloc (.cells (regL X).toArray T1)
  obtain ⟨o1, k2⟩ := op_new (w.alloc (.cells (regL X).toArray T1)) k d a b im t T2
  have hb := ResBox.new ((w.alloc (.cells (regL X).toArray T1)).alloc (.cells #[.string k, .int .i64 d, .int .i64 a, .int .i64 b, .int .u32 im, .int .i64 t] T2)) ⟨0, 0, false, false⟩
  have k3 := (Keeps.refl (fun _ => False) ((w.alloc (.cells (regL X).toArray T1)).alloc (.cells #[.string k, .int .i64 d, .int .i64 a, .int .i64 b, .int .u32 im, .int .i64 t] T2))).alloc (.cells #[.int .u32 0, .int .u32 0, .bool false, .bool false] 130)
  rw [nblk_alloc] at o1
  rw [nblk_alloc, nblk_alloc] at hb
  exact ⟨fun i hi => k3.cell' (k2.cell' (regs_at w X T1 i hi) (fun f => f)) (fun f => f), o1.keep k3 (fun f => f), hb, (k1.trans k2 (fun _ _ h => h)).trans k3 (fun _ _ h => h), by omega⟩
theorem cell_at {w : World} {b : Nat} {cs : Array Value} {T : TypeId} {v : Value} (h : w.heap[b]? = some (.cells cs T (0, 0))) (i : Nat) (e : cs[i]? = some v := by rfl) : w.cell? ⟨b, i, none⟩ = some v := by
  unfold World.cell?
  rw [h]
  exact e
/-- what ResultOf answers -/
def ResIs (w : World) (r : Ir.RRes) (e : Ending) (w' : World) : Prop := e = .returned (.agg (resC r)) ∧ Keeps (fun _ => False) w w'
theorem ResIs.of {w w3 w4 : World} {x y z : Nat} {X : Nat → Int} {o : Ir.Op} {r : Ir.RRes} (h : ResOpen w w3 x y z X o) (k : Keeps (· = z) w3 w4) : ResIs w r (.returned (.agg (resC r))) w4 :=
  ⟨rfl, h.k.trans k (fun b hb e => by have e : b = z := e; have := h.new; omega)⟩
end Go.Proofs.YtknhfobcejpmeaaGreatDoor

/- RefMach -/
/- The reference's machine as it lies; the walks of its memory's Copy, of NewMachine. -/
namespace Go.Proofs.YtknhfobcejpmeaaGreatDoor
open Go.RowKit Go.Deep
set_option linter.unusedVariables false
set_option linter.unusedSimpArgs false

theorem Wb_be (m : Nat → Int) (j r : Nat) (hr : r < 4) (h : ∀ i, i < 4 → 0 ≤ m (4 * j + i) ∧ m (4 * j + i) < 256) : Wb (be m (4 * j) 4) r = m (4 * j + r) := by
  have h0 := h 0 (by omega)
  have h1 := h 1 (by omega)
  have h2 := h 2 (by omega)
  have h3 := h 3 (by omega)
  rw [Nat.add_zero] at h0
  rw [be4]
  unfold Wb
  rcases (show r = 0 ∨ r = 1 ∨ r = 2 ∨ r = 3 by omega) with rfl | rfl | rfl | rfl
  · show _ / (16777216 : Int) % 256 = m (4 * j)
    omega
  · show _ / (65536 : Int) % 256 = _
    omega
  · show _ / (256 : Int) % 256 = _
    omega
  · show _ / (1 : Int) % 256 = _
    omega
theorem ramOf_be (m : Nat → Int) (h : ∀ i, i < 16384 → 0 ≤ m i ∧ m i < 256) (k : Nat) (hk : k < 16384) : ramOf 4096 (fun i => be m (4 * i) 4) k = m k := by
  unfold ramOf
  rw [if_pos (by omega), Wb_be m (k / 4) (k % 4) (by omega) (fun i hi => h _ (by omega)), show 4 * (k / 4) + k % 4 = k by omega]
theorem RefW.setT {w : World} {q wb tb hb : Nat} {wd : Nat → Int} {wt ht : Nat → Bool} (h : RefW w q wb tb hb wd wt ht) (i : Nat) (v : Bool) : RefW (w.setCell ⟨tb, i, none⟩ (.bool v)) q wb tb hb wd (fun p => if p = i then v else wt p) ht := by
  obtain ⟨a1, a2, a3, a4, a5, a6⟩ := h.apart
  have k := Keeps.one w tb i (.bool v)
  exact ⟨(k.block q (Array.getElem?_eq_some_iff.1 h.box).1 a2).trans h.box, k.rowTo h.words a4, (h.watch.set i _).congr (fun j _ => by split <;> rfl), k.rowTo h.hit (Ne.symm a6), h.apart⟩
theorem RefW.setH {w : World} {q wb tb hb : Nat} {wd : Nat → Int} {wt ht : Nat → Bool} (h : RefW w q wb tb hb wd wt ht) (i : Nat) (v : Bool) : RefW (w.setCell ⟨hb, i, none⟩ (.bool v)) q wb tb hb wd wt (fun p => if p = i then v else ht p) := by
  obtain ⟨a1, a2, a3, a4, a5, a6⟩ := h.apart
  have k := Keeps.one w hb i (.bool v)
  exact ⟨(k.block q (Array.getElem?_eq_some_iff.1 h.box).1 a3).trans h.box, k.rowTo h.words a5, k.rowTo h.watch a6, (h.hit.set i _).congr (fun j _ => by split <;> rfl), h.apart⟩
theorem RefW.drew {w : World} {q wb tb hb : Nat} {wd : Nat → Int} {wt ht : Nat → Bool} (h : RefW w q wb tb hb wd wt ht) : RefW w.drew q wb tb hb wd wt ht := h.keep ((Keeps.refl (fun _ => False) w).drew) ⟨fun h => h, fun h => h, fun h => h, fun h => h⟩
theorem RefW.congrT {w : World} {q wb tb hb : Nat} {wd : Nat → Int} {wt ht wt' ht' : Nat → Bool} (h : RefW w q wb tb hb wd wt ht) (e : ∀ i, i < 64 → wt i = wt' i) (e2 : ∀ i, i < 64 → ht i = ht' i) : RefW w q wb tb hb wd wt' ht' :=
  ⟨h.box, h.words, h.watch.congr (fun i hi => by rw [e i hi]), h.hit.congr (fun i hi => by rw [e2 i hi]), h.apart⟩
/-- so far copied -/
def toF (i : Nat) (f : Nat → Bool) (p : Nat) : Bool := if p < i then f p else false
theorem toF_step (i : Nat) (f : Nat → Bool) (p : Nat) : (if p = i then f i else toF i f p) = toF (i + 1) f p := by
  unfold toF
  by_cases h : p = i
  · subst h
    rw [if_pos rfl, if_pos (by omega)]
  · rw [if_neg h]
    by_cases h2 : p < i
    · rw [if_pos h2, if_pos (by omega)]
    · rw [if_neg h2, if_neg (by omega)]
/-- what Copy of the reference's memory answers -/
def RefCopied (w : World) (m : Nat → Int) (wt ht : Nat → Bool) (e : Ending) (w' : World) : Prop :=
  ∃ q wb tb hb, e = .returned (.pointer (some ⟨q, 0, none⟩)) ∧ RefAt w' q wb tb hb m wt ht ∧ (w.heap.size ≤ q ∧ w.heap.size ≤ wb ∧ w.heap.size ≤ tb ∧ w.heap.size ≤ hb) ∧ Keeps (fun _ => False) w w'
set_option maxRecDepth 100000 in
set_option maxHeartbeats 2000000 in
theorem rcopy_any (q wb tb hb : Nat) (m : Nat → Int) (wt ht : Nat → Bool) (w : World) (R : RefAt w q wb tb hb m wt ht) :
    Calls Tryz.prog 101 #[.pointer (some ⟨q, 0, none⟩)] w (RefCopied w m wt ht) := by
  have c0 := cell_at R.raw.box 0
  have HR := Lib.hid R
  have HRD := Lib.hid (show Reads w (some ⟨wb, 0, none⟩) 4096 4096 (fun i => .int .u32 (be m (4 * i) 4)) from ⟨Nat.le_refl _, .inr ⟨wb, 0, rfl, R.raw.words.lt, fun i hi => by
    have := R.raw.words.cell hi
    rwa [Nat.zero_add]⟩⟩)
  have HRR := Lib.hid (fun i (hi : i < 4096) => (be_rng m (4 * i) 4 (fun j hj => R.rng _ (by omega)) : 0 ≤ be m (4 * i) 4 ∧ be m (4 * i) 4 < 4294967296))
  have HMM := Lib.hid (ramOf_be m R.rng)
  clear R
  go_enter Tryz.func101, Tryz.ntmps101
  go_wp2_with fail
  refine (refNew_any 4096 4096 _ w _ HRD.out (by decide) HRR.out).mono ?_
  rintro e w1 ⟨q2, wb2, tb2, hb2, rfl, hR2, hnew, hk1⟩
  have HNEW := Lib.hid hnew
  have HK1 := Lib.hid hk1
  have HR1 := Lib.hid (HR.out.keep hk1 ⟨fun h => h, fun h => h, fun h => h, fun h => h⟩)
  have HR2 := Lib.hid (hR2.congr (m' := m) (fun i hi => by rw [Nat.min_self]; exact HMM.out i hi))
  have HLT := Lib.hid (show (q < w.heap.size ∧ wb < w.heap.size) ∧ tb < w.heap.size ∧ hb < w.heap.size from ⟨⟨(Array.getElem?_eq_some_iff.1 HR.out.raw.box).1, HR.out.raw.words.lt⟩, HR.out.raw.watch.lt, HR.out.raw.hit.lt⟩)
  have HRNG := Lib.hid HR.out.rng
  clear hnew hk1 hR2 c0
  go_wp2_with fail
  go_loopw [4] (fun s4 wr => ∃ i : Nat, i ≤ 64 ∧ s4 = .int .i64 i ∧ RefW wr q2 wb2 tb2 hb2 (fun i => be m (4 * i) 4) (toF i wt) (toF i ht) ∧ Keeps (fun b => b = tb2 ∨ b = hb2) w1 wr) (fun s4 _ => 64 - (intOf s4).toNat)
  case atStart => exact ⟨0, Nat.zero_le _, rfl, HR2.out.raw.congrT (fun i _ => by simp [toF]) (fun i _ => by simp [toF]), Keeps.refl _ _⟩
  case round =>
    obtain ⟨i, hi, rfl, hN, hK⟩ := hrel
    have hsep : (¬ (q = tb2 ∨ q = hb2)) ∧ (¬ (wb = tb2 ∨ wb = hb2)) ∧ (¬ (tb = tb2 ∨ tb = hb2)) ∧ ¬ (hb = tb2 ∨ hb = hb2) := by
      have := HNEW.out
      have := HLT.out
      omega
    have HRr := Lib.hid (HR1.out.keep hK hsep)
    have HN := Lib.hid hN
    have HK := Lib.hid hK
    have HSEP := Lib.hid hsep
    clear hsep hN hK
    by_cases hlt : i < 64
    · have c1 := cell_at HN.out.box 1
      have c2 := cell_at HRr.out.raw.box 1
      have c3 := HRr.out.raw.watch.cell (i := i) hlt
      have f1 := HN.out.watch.frozen i
      have c4 := HN.out.watch.cell (i := i) hlt
      have q0 : 0 ≤ (i : Int) := by omega
      have q1 : (i : Int) < 64 := by omega
      have q3 : ((i : Int)).toNat = i := by omega
      have hN1 := (HN.out.setT i (wt i)).drew
      have hK1 := HK.out.trans ((Keeps.one wr tb2 i (.bool (wt i))).drew.mono (T := fun b => b = tb2 ∨ b = hb2) (fun _ _ h => Or.inl h)) (fun _ _ h => h)
      have HN1 := Lib.hid hN1
      have HK1' := Lib.hid hK1
      clear hN1 hK1
      go_wp2_with fail
      go_still_tail 13, (by kernel_rfl)
      change wpList _ _ _ _ _ wr.drew
      go_upto_region 6 with fail
      generalize (wr.setCell ⟨tb2, i, none⟩ (.bool (wt i))).drew = w4 at *
      clear c1 c2 c3 f1 c4
      have HR4 := Lib.hid (HR1.out.keep HK1'.out HSEP.out)
      have c1 := cell_at HN1.out.box 2
      have c2 := cell_at HR4.out.raw.box 2
      have c3 := HR4.out.raw.hit.cell (i := i) hlt
      have f1 := HN1.out.hit.frozen i
      have c4 := HN1.out.hit.cell (i := i) hlt
      have hN2 := ((HN1.out.setH i (ht i)).drew).congrT (fun p _ => toF_step i wt p) (fun p _ => toF_step i ht p)
      have hK2 := HK1'.out.trans ((Keeps.one w4 hb2 i (.bool (ht i))).drew.mono (T := fun b => b = tb2 ∨ b = hb2) (fun _ _ h => Or.inr h)) (fun _ _ h => h)
      have HN2 := Lib.hid hN2
      have HK2 := Lib.hid hK2
      clear hN2 hK2
      go_still_tail 13, (by kernel_rfl)
      change wpList _ _ _ _ _ w4.drew
      go_wp2
      go_roundw
      case rel => exact ⟨i + 1, by omega, by go_num, HN2.out, HK2.out⟩
      case measure => simp [intOf]; omega
    · obtain rfl : i = 64 := by omega
      have HKK := Lib.hid (HK1.out.trans HK.out (fun b hb h => by have := HNEW.out; rcases h with h | h <;> omega))
      go_wp2_with fail
      go_ret
      exact ⟨q2, wb2, tb2, hb2, rfl, ⟨HN.out.congrT (fun p hp => by simp [toF, hp]) (fun p hp => by simp [toF, hp]), HRNG.out⟩, HNEW.out, HKK.out⟩
/-- the reference's machine: registers, a pointer to memory -/
def rmF (X : Nat → Int) (q : Nat) (k : Nat) : Value := if k < 64 then .int .u32 (X k) else .pointer (some ⟨q, 0, none⟩)
structure RMach (w : World) (mb q : Nat) (X : Nat → Int) : Prop where
  row : w.rowIs mb 134 65 (rmF X q)
theorem RMach.lt {w : World} {mb q : Nat} {X : Nat → Int} (h : RMach w mb q X) : mb < w.heap.size := rowIs_lt h.row
theorem RMach.keep {S : Nat → Prop} {w w' : World} {mb q : Nat} {X : Nat → Int} (h : RMach w mb q X) (k : Keeps S w w') (hs : ¬ S mb) : RMach w' mb q X := ⟨keeps_rowIs k h.row hs⟩
theorem RMach.reg {w : World} {mb q : Nat} {X : Nat → Int} (h : RMach w mb q X) (k : Nat) (hk : k < 64) : w.cell? ⟨mb, k, none⟩ = some (.int .u32 (X k)) ∧ w.frozen? ⟨mb, k, none⟩ = false := by
  have := rowIs_cell h.row k (by omega)
  rw [rmF, if_pos hk] at this
  exact ⟨this, rowIs_frozen h.row k⟩
theorem RMach.ram {w : World} {mb q : Nat} {X : Nat → Int} (h : RMach w mb q X) : w.cell? ⟨mb, 64, none⟩ = some (.pointer (some ⟨q, 0, none⟩)) := rowIs_cell h.row 64 (by omega)
theorem RMach.set {w : World} {mb q : Nat} {X : Nat → Int} (h : RMach w mb q X) (k : Nat) (hk : k < 64) (x : Int) : RMach (w.setCell ⟨mb, k, none⟩ (.int .u32 x)) mb q (Ir.setX X k x) ∧ Keeps (· = mb) w (w.setCell ⟨mb, k, none⟩ (.int .u32 x)) := by
  refine ⟨⟨(h.row.set k _).congr (fun i hi => ?_)⟩, Keeps.one _ _ _ _⟩
  unfold rmF
  by_cases e : i = k
  · subst e
    rw [if_pos rfl, if_pos hk]
    simp [Ir.setX]
  · rw [if_neg e]
    by_cases h64 : i < 64
    · rw [if_pos h64, if_pos h64]
      simp [Ir.setX, e]
    · rw [if_neg h64, if_neg h64]
theorem RMach.congr {w : World} {mb q : Nat} {X Y : Nat → Int} (h : RMach w mb q X) (e : ∀ k, k < 64 → X k = Y k) : RMach w mb q Y := ⟨h.row.congr (fun i hi => by
  unfold rmF
  split
  · rename_i h
    rw [e i h]
  · rfl)⟩
def rm0 (q : Nat) : List Value := (List.range 64).map (fun _ => .int .u32 0) ++ [.pointer (some ⟨q, 0, none⟩)]
theorem rm0_row (w : World) (q : Nat) : RMach (w.alloc (.cells (rm0 q).toArray 134)) w.heap.size q (fun _ => 0) := by
  refine ⟨_, blk_alloc_new _ _, by simp [rm0], fun i hi => ?_⟩
  unfold rmF rm0
  rw [List.getElem?_toArray]
  by_cases h : i < 64
  · rw [if_pos h, List.getElem?_append_left (by simpa using h)]
    simp [h]
  · rw [if_neg h, List.getElem?_append_right (by simp; omega)]
    have : i = 64 := by omega
    subst this
    simp
theorem rm0_lit (q : Nat) : (rm0 q).toArray = Tryz.zeroCells134.setIfInBounds 64 (.pointer (some ⟨q, 0, none⟩)) := by kernel_rfl
end Go.Proofs.YtknhfobcejpmeaaGreatDoor

/- RefMach2 -/
/- The walk of the reference's NewMachine. -/
namespace Go.Proofs.YtknhfobcejpmeaaGreatDoor
open Go.RowKit Go.Deep
set_option linter.unusedVariables false
set_option linter.unusedSimpArgs false

/-- a machine of the reference's with memory of its own, all from B on -/
structure RefM (w : World) (B mb q wb tb hb : Nat) (X : Nat → Int) (m : Nat → Int) (wt ht : Nat → Bool) : Prop where
  mach : RMach w mb q X
  ram : RefAt w q wb tb hb m wt ht
  low : B ≤ mb ∧ B ≤ q ∧ B ≤ wb ∧ B ≤ tb ∧ B ≤ hb
  apart : mb ≠ q ∧ mb ≠ wb ∧ mb ≠ tb ∧ mb ≠ hb
theorem RefM.keep {S : Nat → Prop} {w w' : World} {B mb q wb tb hb : Nat} {X m : Nat → Int} {wt ht : Nat → Bool} (h : RefM w B mb q wb tb hb X m wt ht) (k : Keeps S w w') (hs : ∀ b, B ≤ b → b < w.heap.size → ¬ S b) : RefM w' B mb q wb tb hb X m wt ht :=
  have hl := h.low
  ⟨h.mach.keep k (hs _ hl.1 h.mach.lt), h.ram.keep k ⟨hs _ hl.2.1 (Array.getElem?_eq_some_iff.1 h.ram.raw.box).1, hs _ hl.2.2.1 h.ram.raw.words.lt, hs _ hl.2.2.2.1 h.ram.raw.watch.lt, hs _ hl.2.2.2.2 h.ram.raw.hit.lt⟩, h.low, h.apart⟩
theorem RefM.quiet {w w' : World} {B mb q wb tb hb : Nat} {X m : Nat → Int} {wt ht : Nat → Bool} (h : RefM w B mb q wb tb hb X m wt ht) (k : Keeps (fun _ => False) w w') : RefM w' B mb q wb tb hb X m wt ht := h.keep k (fun _ _ _ h => h)
/-- a register is set -/
theorem RefM.set {w : World} {B mb q wb tb hb : Nat} {X m : Nat → Int} {wt ht : Nat → Bool} (h : RefM w B mb q wb tb hb X m wt ht) (k : Nat) (hk : k < 64) (x : Int) :
    RefM (w.setCell ⟨mb, k, none⟩ (.int .u32 x)) B mb q wb tb hb (Ir.setX X k x) m wt ht ∧ Keeps (· = mb) w (w.setCell ⟨mb, k, none⟩ (.int .u32 x)) := by
  obtain ⟨h1, h2⟩ := h.mach.set k hk x
  obtain ⟨a1, a2, a3, a4⟩ := h.apart
  exact ⟨⟨h1, h.ram.keep h2 ⟨Ne.symm a1, Ne.symm a2, Ne.symm a3, Ne.symm a4⟩, h.low, h.apart⟩, h2⟩
theorem RefM.congr {w : World} {B mb q wb tb hb : Nat} {X Y m : Nat → Int} {wt ht : Nat → Bool} (h : RefM w B mb q wb tb hb X m wt ht) (e : ∀ k, k < 64 → X k = Y k) : RefM w B mb q wb tb hb Y m wt ht := ⟨h.mach.congr e, h.ram, h.low, h.apart⟩
/-- so far laid -/
def mcTo (s : Cp.St) (i : Nat) (k : Nat) : Int := if 1 ≤ k ∧ k < i then (Ir.mc0 s).X k else 0
theorem mcTo_step (s : Cp.St) (i : Nat) (v : Int) (hi : 1 ≤ i) (hv : (Ir.mc0 s).X i = v) (k : Nat) : Ir.setX (mcTo s i) i v k = mcTo s (i + 1) k := by
  unfold Ir.setX mcTo
  rw [Int.toNat_natCast]
  by_cases h : k = i
  · subst h
    rw [if_pos rfl, if_pos (by omega), hv]
  · rw [if_neg h]
    by_cases h2 : 1 ≤ k ∧ k < i
    · rw [if_pos h2, if_pos (by omega)]
    · rw [if_neg h2, if_neg (by omega)]
theorem mcTo_all (s : Cp.St) (h0 : s.R 0 = 0) (k : Nat) : mcTo s 34 k = (Ir.mc0 s).X k := by
  unfold mcTo
  by_cases h : 1 ≤ k ∧ k < 34
  · rw [if_pos h]
  · rw [if_neg h]
    unfold Ir.mc0
    dsimp only
    by_cases hk : k = 0
    · subst hk
      rw [if_pos (by omega), h0]
    · rw [if_neg (by omega), if_neg (by omega), if_neg (by omega)]
set_option maxRecDepth 100000 in
set_option maxHeartbeats 4000000 in
theorem rnewMachine_any (sb q wb tb hb : Nat) (m : Nat → Int) (wt ht : Nat → Bool) (s : Cp.St) (w : World) (hS : StAt w sb s) (R : RefAt w q wb tb hb m wt ht) (h0 : s.R 0 = 0) :
    Calls Tryz.prog 63 #[.pointer (some ⟨sb, 0, none⟩), .pointer (some ⟨q, 0, none⟩)] w fun e w' => ∃ mb q2 wb2 tb2 hb2, e = .returned (.pointer (some ⟨mb, 0, none⟩)) ∧ RefM w' w.heap.size mb q2 wb2 tb2 hb2 (Ir.mc0 s).X m wt ht ∧ Keeps (fun _ => False) w w' := by
  have HS := Lib.hid hS
  have HR := Lib.hid R
  have HALL := Lib.hid (mcTo_all s h0)
  clear hS R h0
  go_enter Tryz.func63, Tryz.ntmps63
  go_wp2_with fail
  refine (rcopy_any q wb tb hb m wt ht w HR.out).mono ?_
  rintro e w1 ⟨q2, wb2, tb2, hb2, rfl, hR2, hnew, hk1⟩
  have HR0 := Lib.hid (rm0_row w1 q2)
  have hka := (Keeps.refl (fun _ => False) w1).alloc (.cells (rm0 q2).toArray 134)
  have HK2 := Lib.hid (hk1.trans hka (fun _ _ h => h))
  have hR2' := hR2.keep hka ⟨fun h => h, fun h => h, fun h => h, fun h => h⟩
  have hlt := (show q2 < w1.heap.size ∧ wb2 < w1.heap.size ∧ tb2 < w1.heap.size ∧ hb2 < w1.heap.size from ⟨(Array.getElem?_eq_some_iff.1 hR2.raw.box).1, hR2.raw.words.lt, hR2.raw.watch.lt, hR2.raw.hit.lt⟩)
  have HM2 := Lib.hid (show RefM (w1.alloc (.cells (rm0 q2).toArray 134)) w.heap.size w1.heap.size q2 wb2 tb2 hb2 (mcTo s 1) m wt ht from
    ⟨(rm0_row w1 q2).congr (fun k _ => by unfold mcTo; rw [if_neg (by omega)]), hR2', ⟨hk1.size, hnew.1, hnew.2.1, hnew.2.2.1, hnew.2.2.2⟩, by omega⟩)
  have HSL := Lib.hid (show sb < w.heap.size from HS.out.lt)
  rw [rm0_lit] at HK2 HM2
  clear hR2' hka hR2 hk1 hnew HR0 hlt
  go_upto_region 2 with fail
  obtain ⟨B, hB⟩ : ∃ B, w.heap.size = B := ⟨_, rfl⟩
  rw [hB] at HM2 HSL
  generalize w1.alloc _ = w2 at *
  generalize w1.heap.size = mb at *
  have HS2 := Lib.hid (HS.out.keep HK2.out (fun h => h))
  have HBE := Lib.hid hB
  clear hB
  go_wp2_with fail
  go_loopw [6] (fun s6 wr => ∃ i : Nat, 1 ≤ i ∧ i ≤ 32 ∧ s6 = .int .i64 i ∧ RefM wr B mb q2 wb2 tb2 hb2 (mcTo s i) m wt ht ∧ Keeps (fun b => b = mb) w2 wr) (fun s6 _ => 32 - (intOf s6).toNat)
  case atStart => exact ⟨1, by omega, by omega, rfl, HM2.out, Keeps.refl _ _⟩
  case round =>
    obtain ⟨i, hi1, hi, rfl, hN, hK⟩ := hrel
    have HSr := Lib.hid (HS2.out.keep hK (fun e => by have := HSL.out; have := HM2.out.low; omega))
    have HN := Lib.hid hN
    have HK := Lib.hid hK
    clear hN hK
    by_cases hlt : i < 32
    · have c1 := HSr.out.reg i hlt
      obtain ⟨c2, f2⟩ := HN.out.mach.reg i (by omega)
      have q0 : 0 ≤ (i : Int) := by omega
      have q1 : (i : Int) < 32 := by omega
      have q2 : (i : Int) < 64 := by omega
      have q3 : ((i : Int)).toNat = i := by omega
      obtain ⟨hN1, hK1⟩ := HN.out.set i (by omega) (s.R i)
      have HN1 := Lib.hid ((hN1.congr (fun k _ => mcTo_step s i (s.R i) hi1 (by unfold Ir.mc0; dsimp only; rw [if_pos hlt]) k)).quiet ((Keeps.refl _ _).drew))
      have HK1 := Lib.hid (HK.out.trans hK1.drew (fun _ _ h => h))
      clear hN1 hK1
      go_wp2_with fail
      go_still_tail 11, (by kernel_rfl)
      change wpList _ _ _ _ _ wr.drew
      go_wp2
      go_roundw
      case rel => exact ⟨i + 1, by omega, by omega, by go_num, HN1.out, HK1.out⟩
      case measure => simp [intOf]; omega
    · obtain rfl : i = 32 := by omega
      obtain ⟨c1, d1, _⟩ := HSr.out.cells
      obtain ⟨c2, f2⟩ := HN.out.mach.reg 32 (by omega)
      obtain ⟨hN1, hK1⟩ := HN.out.set 32 (by omega) s.hi
      have HN1 := Lib.hid ((hN1.congr (fun k _ => mcTo_step s 32 s.hi hi1 (by rfl) k)).quiet ((Keeps.refl _ _).drew))
      have HK1 := Lib.hid (HK.out.trans hK1.drew (fun _ _ h => h))
      clear hN1 hK1
      go_wp2_with fail
      go_still_tail 8, (by kernel_rfl)
      change wpList _ _ _ _ _ wr.drew
      go_upto_region 7 with fail
      generalize (wr.setCell ⟨mb, 32, none⟩ (.int .u32 s.hi)).drew = w4 at *
      clear c1 c2 d1 f2
      have HS4 := Lib.hid (HS2.out.keep HK1.out (fun e => by have := HSL.out; have := HM2.out.low; omega))
      obtain ⟨_, c1, _⟩ := HS4.out.cells
      obtain ⟨c2, f2⟩ := HN1.out.mach.reg 33 (by omega)
      obtain ⟨hN2, hK2⟩ := HN1.out.set 33 (by omega) s.lo
      have HN2 := Lib.hid ((hN2.congr (fun k _ => (mcTo_step s 33 s.lo (by omega) (by rfl) k).trans (HALL.out k))).quiet ((Keeps.refl _ _).drew))
      have HK2' := Lib.hid (HK1.out.trans hK2.drew (fun _ _ h => h))
      clear hN2 hK2
      go_still_tail 8, (by kernel_rfl)
      change wpList _ _ _ _ _ w4.drew
      go_wp2
      go_ret
      exact ⟨mb, q2, wb2, tb2, hb2, rfl, by rw [HBE.out]; exact HN2.out, HK2.out.trans HK2'.out (fun b hb e => by have := HM2.out.low; have := HBE.out; omega)⟩
end Go.Proofs.YtknhfobcejpmeaaGreatDoor

/- ResOf0 -/
/- The walk of the reference's ResultOf. Printed by gen/resof.py. -/
namespace Go.Proofs.YtknhfobcejpmeaaGreatDoor
open Go.RowKit Go.Deep
set_option linter.unusedVariables false
set_option linter.unusedSimpArgs false

set_option maxHeartbeats 4000000 in
set_option maxRecDepth 100000 in
theorem res_set (X : Nat → Int) (k : ByteArray) (d a b im t : Int) (q wb tb hb : Nat) (m : Nat → Int) (wt ht : Nat → Bool) (W : Int → Bool) (w : World) (R : RefAt w q wb tb hb m wt ht) (hW : ∀ p : Nat, p < 64 → wt p = W p) (hX : ∀ k, k < 64 → 0 ≤ X k ∧ X k < 4294967296)
    (hi : Ir.OpIn ⟨k, d, a, b, im, t⟩) (hk : Ir.kn k = 1) :
    Calls Tryz.prog 64 #[.agg (regL X).toArray, .pointer (some ⟨q, 0, none⟩), .agg #[.string k, .int .i64 d, .int .i64 a, .int .i64 b, .int .u32 im, .int .i64 t]] w (ResIs w (Ir.resOf X m W ⟨k, d, a, b, im, t⟩)) := by
  have hin := hi
  obtain ⟨_, hid, hia, hib, hil, his, him⟩ := hi
  simp only at hid hia hib hil his him
  obtain ⟨ka, rfl⟩ := Int.eq_ofNat_of_zero_le hia.1
  have hka : ka < 64 := by omega
  have hza : (ka : Int) < 64 := by omega
  have xa := hX ka hka
  obtain ⟨kb, rfl⟩ := Int.eq_ofNat_of_zero_le (hib (by omega)).1
  have hkb : kb < 64 := by have := hib (by omega); omega
  have hzb : (kb : Int) < 64 := by omega
  have xb := hX kb hkb
  have HK := Ir.kinds k 1 hk
  simp only [Nat.reduceBEq] at HK
  obtain ⟨k1, k2, k3, k4, k5, k6, k7, k8, k9, k10, k11, k12, k13, k14, k15, k16, k17, k18, k19, k20, k21, k22, k23, k24, k25, k26, k27⟩ := HK
  have HRES := Lib.hid (show Ir.resOf X m W ⟨k, d, (ka : Int), (kb : Int), im, t⟩ = ⟨im, 0, false, false⟩ by unfold Ir.resOf; simp [hk])
  have HO := Lib.hid (res_open w X k d (ka : Int) (kb : Int) im t 132 100)
  have HR := Lib.hid R
  have HW := Lib.hid hW
  have HX := Lib.hid hX
  clear R hW hid hia hib hil his hX
  go_enter Tryz.func64, Tryz.ntmps64
  go_upto_region 1 with fail
  have hO := HO.out
  clear HO
  generalize World.alloc _ _ = w3 at *
  obtain ⟨x, hx⟩ : ∃ x, w.heap.size = x := ⟨_, rfl⟩
  rw [hx] at hO ⊢
  clear hx
  obtain ⟨y, hy⟩ : ∃ y, x + 1 = y := ⟨_, rfl⟩
  rw [hy] at hO ⊢
  clear hy
  obtain ⟨z, hz⟩ : ∃ z, y + 1 = z := ⟨_, rfl⟩
  rw [hz] at hO ⊢
  clear hz
  have HO := Lib.hid hO
  obtain ⟨v0, v1, v2, v3, v4, v5⟩ := hO.op
  simp only at v0 v1 v2 v3 v4 v5
  have ma := hO.regs ka hka
  obtain ⟨_, g0, g1, g2, g3⟩ := hO.box.cells
  have mb := HO.out.regs kb hkb
  obtain ⟨hp1, hp2⟩ := HO.out.box.put (r' := ⟨im, 0, false, false⟩)
  have HP := Lib.hid hp1
  have HPK := Lib.hid hp2
  clear hp1 hp2 hO
  go_wp2_with fail
  refine bodyPost_ret (results_cell_row rfl _ _ z 130 (resC ⟨im, 0, false, false⟩) (0, 0) _ rfl HP.out.blk Tryz.underlying130 rfl size_res) rfl ?_
  rw [HRES.out]
  exact ResIs.of HO.out HPK.out
set_option maxHeartbeats 4000000 in
set_option maxRecDepth 100000 in
theorem res_copy (X : Nat → Int) (k : ByteArray) (d a b im t : Int) (q wb tb hb : Nat) (m : Nat → Int) (wt ht : Nat → Bool) (W : Int → Bool) (w : World) (R : RefAt w q wb tb hb m wt ht) (hW : ∀ p : Nat, p < 64 → wt p = W p) (hX : ∀ k, k < 64 → 0 ≤ X k ∧ X k < 4294967296)
    (hi : Ir.OpIn ⟨k, d, a, b, im, t⟩) (hk : Ir.kn k = 2) :
    Calls Tryz.prog 64 #[.agg (regL X).toArray, .pointer (some ⟨q, 0, none⟩), .agg #[.string k, .int .i64 d, .int .i64 a, .int .i64 b, .int .u32 im, .int .i64 t]] w (ResIs w (Ir.resOf X m W ⟨k, d, a, b, im, t⟩)) := by
  have hin := hi
  obtain ⟨_, hid, hia, hib, hil, his, him⟩ := hi
  simp only at hid hia hib hil his him
  obtain ⟨ka, rfl⟩ := Int.eq_ofNat_of_zero_le hia.1
  have hka : ka < 64 := by omega
  have hza : (ka : Int) < 64 := by omega
  have xa := hX ka hka
  obtain ⟨kb, rfl⟩ := Int.eq_ofNat_of_zero_le (hib (by omega)).1
  have hkb : kb < 64 := by have := hib (by omega); omega
  have hzb : (kb : Int) < 64 := by omega
  have xb := hX kb hkb
  have HK := Ir.kinds k 2 hk
  simp only [Nat.reduceBEq] at HK
  obtain ⟨k1, k2, k3, k4, k5, k6, k7, k8, k9, k10, k11, k12, k13, k14, k15, k16, k17, k18, k19, k20, k21, k22, k23, k24, k25, k26, k27⟩ := HK
  have HRES := Lib.hid (show Ir.resOf X m W ⟨k, d, (ka : Int), (kb : Int), im, t⟩ = ⟨X ka, 0, false, false⟩ by unfold Ir.resOf; simp [hk, Ir.rg])
  have HO := Lib.hid (res_open w X k d (ka : Int) (kb : Int) im t 132 100)
  have HR := Lib.hid R
  have HW := Lib.hid hW
  have HX := Lib.hid hX
  clear R hW hid hia hib hil his hX
  go_enter Tryz.func64, Tryz.ntmps64
  go_upto_region 1 with fail
  have hO := HO.out
  clear HO
  generalize World.alloc _ _ = w3 at *
  obtain ⟨x, hx⟩ : ∃ x, w.heap.size = x := ⟨_, rfl⟩
  rw [hx] at hO ⊢
  clear hx
  obtain ⟨y, hy⟩ : ∃ y, x + 1 = y := ⟨_, rfl⟩
  rw [hy] at hO ⊢
  clear hy
  obtain ⟨z, hz⟩ : ∃ z, y + 1 = z := ⟨_, rfl⟩
  rw [hz] at hO ⊢
  clear hz
  have HO := Lib.hid hO
  obtain ⟨v0, v1, v2, v3, v4, v5⟩ := hO.op
  simp only at v0 v1 v2 v3 v4 v5
  have ma := hO.regs ka hka
  obtain ⟨_, g0, g1, g2, g3⟩ := hO.box.cells
  have mb := HO.out.regs kb hkb
  obtain ⟨hp1, hp2⟩ := HO.out.box.put (r' := ⟨X ka, 0, false, false⟩)
  have HP := Lib.hid hp1
  have HPK := Lib.hid hp2
  clear hp1 hp2 hO
  go_wp2_with fail
  refine bodyPost_ret (results_cell_row rfl _ _ z 130 (resC ⟨X ka, 0, false, false⟩) (0, 0) _ rfl HP.out.blk Tryz.underlying130 rfl size_res) rfl ?_
  rw [HRES.out]
  exact ResIs.of HO.out HPK.out
set_option maxHeartbeats 4000000 in
set_option maxRecDepth 100000 in
theorem res_overp (X : Nat → Int) (k : ByteArray) (d a b im t : Int) (q wb tb hb : Nat) (m : Nat → Int) (wt ht : Nat → Bool) (W : Int → Bool) (w : World) (R : RefAt w q wb tb hb m wt ht) (hW : ∀ p : Nat, p < 64 → wt p = W p) (hX : ∀ k, k < 64 → 0 ≤ X k ∧ X k < 4294967296)
    (hi : Ir.OpIn ⟨k, d, a, b, im, t⟩) (hk : Ir.kn k = 3) :
    Calls Tryz.prog 64 #[.agg (regL X).toArray, .pointer (some ⟨q, 0, none⟩), .agg #[.string k, .int .i64 d, .int .i64 a, .int .i64 b, .int .u32 im, .int .i64 t]] w (ResIs w (Ir.resOf X m W ⟨k, d, a, b, im, t⟩)) := by
  have hin := hi
  obtain ⟨_, hid, hia, hib, hil, his, him⟩ := hi
  simp only at hid hia hib hil his him
  obtain ⟨ka, rfl⟩ := Int.eq_ofNat_of_zero_le hia.1
  have hka : ka < 64 := by omega
  have hza : (ka : Int) < 64 := by omega
  have xa := hX ka hka
  obtain ⟨kb, rfl⟩ := Int.eq_ofNat_of_zero_le (hib (by omega)).1
  have hkb : kb < 64 := by have := hib (by omega); omega
  have hzb : (kb : Int) < 64 := by omega
  have xb := hX kb hkb
  have HK := Ir.kinds k 3 hk
  simp only [Nat.reduceBEq] at HK
  obtain ⟨k1, k2, k3, k4, k5, k6, k7, k8, k9, k10, k11, k12, k13, k14, k15, k16, k17, k18, k19, k20, k21, k22, k23, k24, k25, k26, k27⟩ := HK
  have HRES := Lib.hid (show Ir.resOf X m W ⟨k, d, (ka : Int), (kb : Int), im, t⟩ = ⟨0, 0, !Wd.isS (Wd.sg (X ka) + Wd.sg (X kb)), false⟩ by unfold Ir.resOf Ir.overV; simp [hk, Ir.rg])
  have HO := Lib.hid (res_open w X k d (ka : Int) (kb : Int) im t 132 100)
  have HR := Lib.hid R
  have HW := Lib.hid hW
  have HX := Lib.hid hX
  clear R hW hid hia hib hil his hX
  go_enter Tryz.func64, Tryz.ntmps64
  go_upto_region 1 with fail
  have hO := HO.out
  clear HO
  generalize World.alloc _ _ = w3 at *
  obtain ⟨x, hx⟩ : ∃ x, w.heap.size = x := ⟨_, rfl⟩
  rw [hx] at hO ⊢
  clear hx
  obtain ⟨y, hy⟩ : ∃ y, x + 1 = y := ⟨_, rfl⟩
  rw [hy] at hO ⊢
  clear hy
  obtain ⟨z, hz⟩ : ∃ z, y + 1 = z := ⟨_, rfl⟩
  rw [hz] at hO ⊢
  clear hz
  have HO := Lib.hid hO
  obtain ⟨v0, v1, v2, v3, v4, v5⟩ := hO.op
  simp only at v0 v1 v2 v3 v4 v5
  have ma := hO.regs ka hka
  obtain ⟨_, g0, g1, g2, g3⟩ := hO.box.cells
  have mb := HO.out.regs kb hkb
  have sa := Wd.sg_bd (X ka) xa.1 xa.2
  have sb := Wd.sg_bd (X kb) xb.1 xb.2
  have HSA := Lib.hid (fun w => signed_any (X ka) w xa)
  have HSB := Lib.hid (fun w => signed_any (X kb) w xb)
  generalize Wd.sg (X ka) = sva at *
  generalize Wd.sg (X kb) = svb at *
  go_wp2_with fail
  refine (HSA.out _).mono ?_
  rintro e w' ⟨rfl, rfl⟩
  go_wp2_with fail
  refine (HSB.out _).mono ?_
  rintro e w' ⟨rfl, rfl⟩
  go_wp2_with fail
  refine (isSigned_any _ _).mono ?_
  rintro e w' ⟨rfl, rfl⟩
  obtain ⟨hp1, hp2⟩ := HO.out.box.put (r' := ⟨0, 0, !Wd.isS (sva + svb), false⟩)
  have HP := Lib.hid hp1
  have HPK := Lib.hid hp2
  clear hp1 hp2 hO
  go_wp2_with fail
  refine bodyPost_ret (results_cell_row rfl _ _ z 130 (resC ⟨0, 0, !Wd.isS (sva + svb), false⟩) (0, 0) _ rfl HP.out.blk Tryz.underlying130 rfl size_res) rfl ?_
  rw [HRES.out]
  exact ResIs.of HO.out HPK.out
set_option maxHeartbeats 4000000 in
set_option maxRecDepth 100000 in
theorem res_overm (X : Nat → Int) (k : ByteArray) (d a b im t : Int) (q wb tb hb : Nat) (m : Nat → Int) (wt ht : Nat → Bool) (W : Int → Bool) (w : World) (R : RefAt w q wb tb hb m wt ht) (hW : ∀ p : Nat, p < 64 → wt p = W p) (hX : ∀ k, k < 64 → 0 ≤ X k ∧ X k < 4294967296)
    (hi : Ir.OpIn ⟨k, d, a, b, im, t⟩) (hk : Ir.kn k = 4) :
    Calls Tryz.prog 64 #[.agg (regL X).toArray, .pointer (some ⟨q, 0, none⟩), .agg #[.string k, .int .i64 d, .int .i64 a, .int .i64 b, .int .u32 im, .int .i64 t]] w (ResIs w (Ir.resOf X m W ⟨k, d, a, b, im, t⟩)) := by
  have hin := hi
  obtain ⟨_, hid, hia, hib, hil, his, him⟩ := hi
  simp only at hid hia hib hil his him
  obtain ⟨ka, rfl⟩ := Int.eq_ofNat_of_zero_le hia.1
  have hka : ka < 64 := by omega
  have hza : (ka : Int) < 64 := by omega
  have xa := hX ka hka
  obtain ⟨kb, rfl⟩ := Int.eq_ofNat_of_zero_le (hib (by omega)).1
  have hkb : kb < 64 := by have := hib (by omega); omega
  have hzb : (kb : Int) < 64 := by omega
  have xb := hX kb hkb
  have HK := Ir.kinds k 4 hk
  simp only [Nat.reduceBEq] at HK
  obtain ⟨k1, k2, k3, k4, k5, k6, k7, k8, k9, k10, k11, k12, k13, k14, k15, k16, k17, k18, k19, k20, k21, k22, k23, k24, k25, k26, k27⟩ := HK
  have HRES := Lib.hid (show Ir.resOf X m W ⟨k, d, (ka : Int), (kb : Int), im, t⟩ = ⟨0, 0, !Wd.isS (Wd.sg (X ka) - Wd.sg (X kb)), false⟩ by unfold Ir.resOf Ir.overV; simp [hk, Ir.rg])
  have HO := Lib.hid (res_open w X k d (ka : Int) (kb : Int) im t 132 100)
  have HR := Lib.hid R
  have HW := Lib.hid hW
  have HX := Lib.hid hX
  clear R hW hid hia hib hil his hX
  go_enter Tryz.func64, Tryz.ntmps64
  go_upto_region 1 with fail
  have hO := HO.out
  clear HO
  generalize World.alloc _ _ = w3 at *
  obtain ⟨x, hx⟩ : ∃ x, w.heap.size = x := ⟨_, rfl⟩
  rw [hx] at hO ⊢
  clear hx
  obtain ⟨y, hy⟩ : ∃ y, x + 1 = y := ⟨_, rfl⟩
  rw [hy] at hO ⊢
  clear hy
  obtain ⟨z, hz⟩ : ∃ z, y + 1 = z := ⟨_, rfl⟩
  rw [hz] at hO ⊢
  clear hz
  have HO := Lib.hid hO
  obtain ⟨v0, v1, v2, v3, v4, v5⟩ := hO.op
  simp only at v0 v1 v2 v3 v4 v5
  have ma := hO.regs ka hka
  obtain ⟨_, g0, g1, g2, g3⟩ := hO.box.cells
  have mb := HO.out.regs kb hkb
  have sa := Wd.sg_bd (X ka) xa.1 xa.2
  have sb := Wd.sg_bd (X kb) xb.1 xb.2
  have HSA := Lib.hid (fun w => signed_any (X ka) w xa)
  have HSB := Lib.hid (fun w => signed_any (X kb) w xb)
  generalize Wd.sg (X ka) = sva at *
  generalize Wd.sg (X kb) = svb at *
  go_wp2_with fail
  refine (HSA.out _).mono ?_
  rintro e w' ⟨rfl, rfl⟩
  go_wp2_with fail
  refine (HSB.out _).mono ?_
  rintro e w' ⟨rfl, rfl⟩
  go_wp2_with fail
  refine (isSigned_any _ _).mono ?_
  rintro e w' ⟨rfl, rfl⟩
  obtain ⟨hp1, hp2⟩ := HO.out.box.put (r' := ⟨0, 0, !Wd.isS (sva - svb), false⟩)
  have HP := Lib.hid hp1
  have HPK := Lib.hid hp2
  clear hp1 hp2 hO
  go_wp2_with fail
  refine bodyPost_ret (results_cell_row rfl _ _ z 130 (resC ⟨0, 0, !Wd.isS (sva - svb), false⟩) (0, 0) _ rfl HP.out.blk Tryz.underlying130 rfl size_res) rfl ?_
  rw [HRES.out]
  exact ResIs.of HO.out HPK.out
set_option maxHeartbeats 4000000 in
set_option maxRecDepth 100000 in
theorem res_if (X : Nat → Int) (k : ByteArray) (d a b im t : Int) (q wb tb hb : Nat) (m : Nat → Int) (wt ht : Nat → Bool) (W : Int → Bool) (w : World) (R : RefAt w q wb tb hb m wt ht) (hW : ∀ p : Nat, p < 64 → wt p = W p) (hX : ∀ k, k < 64 → 0 ≤ X k ∧ X k < 4294967296)
    (hi : Ir.OpIn ⟨k, d, a, b, im, t⟩) (hk : Ir.kn k = 7) :
    Calls Tryz.prog 64 #[.agg (regL X).toArray, .pointer (some ⟨q, 0, none⟩), .agg #[.string k, .int .i64 d, .int .i64 a, .int .i64 b, .int .u32 im, .int .i64 t]] w (ResIs w (Ir.resOf X m W ⟨k, d, a, b, im, t⟩)) := by
  have hin := hi
  obtain ⟨_, hid, hia, hib, hil, his, him⟩ := hi
  simp only at hid hia hib hil his him
  obtain ⟨ka, rfl⟩ := Int.eq_ofNat_of_zero_le hia.1
  have hka : ka < 64 := by omega
  have hza : (ka : Int) < 64 := by omega
  have xa := hX ka hka
  obtain ⟨kb, rfl⟩ := Int.eq_ofNat_of_zero_le (hib (by omega)).1
  have hkb : kb < 64 := by have := hib (by omega); omega
  have hzb : (kb : Int) < 64 := by omega
  have xb := hX kb hkb
  have HK := Ir.kinds k 7 hk
  simp only [Nat.reduceBEq] at HK
  obtain ⟨k1, k2, k3, k4, k5, k6, k7, k8, k9, k10, k11, k12, k13, k14, k15, k16, k17, k18, k19, k20, k21, k22, k23, k24, k25, k26, k27⟩ := HK
  have HRES := Lib.hid (show Ir.resOf X m W ⟨k, d, (ka : Int), (kb : Int), im, t⟩ = ⟨0, im, false, X ka != 0⟩ by unfold Ir.resOf; simp [hk, Ir.rg]; by_cases h : X ka = 0 <;> simp [h])
  have HO := Lib.hid (res_open w X k d (ka : Int) (kb : Int) im t 132 100)
  have HR := Lib.hid R
  have HW := Lib.hid hW
  have HX := Lib.hid hX
  clear R hW hid hia hib hil his hX
  go_enter Tryz.func64, Tryz.ntmps64
  go_upto_region 1 with fail
  have hO := HO.out
  clear HO
  generalize World.alloc _ _ = w3 at *
  obtain ⟨x, hx⟩ : ∃ x, w.heap.size = x := ⟨_, rfl⟩
  rw [hx] at hO ⊢
  clear hx
  obtain ⟨y, hy⟩ : ∃ y, x + 1 = y := ⟨_, rfl⟩
  rw [hy] at hO ⊢
  clear hy
  obtain ⟨z, hz⟩ : ∃ z, y + 1 = z := ⟨_, rfl⟩
  rw [hz] at hO ⊢
  clear hz
  have HO := Lib.hid hO
  obtain ⟨v0, v1, v2, v3, v4, v5⟩ := hO.op
  simp only at v0 v1 v2 v3 v4 v5
  have ma := hO.regs ka hka
  obtain ⟨_, g0, g1, g2, g3⟩ := hO.box.cells
  have mb := HO.out.regs kb hkb
  obtain ⟨hp1, hp2⟩ := HO.out.box.put (r' := ⟨0, im, false, X ka != 0⟩)
  have HP := Lib.hid hp1
  have HPK := Lib.hid hp2
  clear hp1 hp2 hO
  go_wp2_with fail
  refine bodyPost_ret (results_cell_row rfl _ _ z 130 (resC ⟨0, im, false, X ka != 0⟩) (0, 0) _ rfl HP.out.blk Tryz.underlying130 rfl size_res) rfl ?_
  rw [HRES.out]
  exact ResIs.of HO.out HPK.out
set_option maxHeartbeats 4000000 in
set_option maxRecDepth 100000 in
theorem res_out (X : Nat → Int) (k : ByteArray) (d a b im t : Int) (q wb tb hb : Nat) (m : Nat → Int) (wt ht : Nat → Bool) (W : Int → Bool) (w : World) (R : RefAt w q wb tb hb m wt ht) (hW : ∀ p : Nat, p < 64 → wt p = W p) (hX : ∀ k, k < 64 → 0 ≤ X k ∧ X k < 4294967296)
    (hi : Ir.OpIn ⟨k, d, a, b, im, t⟩) (hk : Ir.kn k = 8) :
    Calls Tryz.prog 64 #[.agg (regL X).toArray, .pointer (some ⟨q, 0, none⟩), .agg #[.string k, .int .i64 d, .int .i64 a, .int .i64 b, .int .u32 im, .int .i64 t]] w (ResIs w (Ir.resOf X m W ⟨k, d, a, b, im, t⟩)) := by
  have hin := hi
  obtain ⟨_, hid, hia, hib, hil, his, him⟩ := hi
  simp only at hid hia hib hil his him
  obtain ⟨ka, rfl⟩ := Int.eq_ofNat_of_zero_le hia.1
  have hka : ka < 64 := by omega
  have hza : (ka : Int) < 64 := by omega
  have xa := hX ka hka
  obtain ⟨kb, rfl⟩ := Int.eq_ofNat_of_zero_le (hib (by omega)).1
  have hkb : kb < 64 := by have := hib (by omega); omega
  have hzb : (kb : Int) < 64 := by omega
  have xb := hX kb hkb
  have HK := Ir.kinds k 8 hk
  simp only [Nat.reduceBEq] at HK
  obtain ⟨k1, k2, k3, k4, k5, k6, k7, k8, k9, k10, k11, k12, k13, k14, k15, k16, k17, k18, k19, k20, k21, k22, k23, k24, k25, k26, k27⟩ := HK
  have HRES := Lib.hid (show Ir.resOf X m W ⟨k, d, (ka : Int), (kb : Int), im, t⟩ = ⟨0, im, false, true⟩ by unfold Ir.resOf; simp [hk])
  have HO := Lib.hid (res_open w X k d (ka : Int) (kb : Int) im t 132 100)
  have HR := Lib.hid R
  have HW := Lib.hid hW
  have HX := Lib.hid hX
  clear R hW hid hia hib hil his hX
  go_enter Tryz.func64, Tryz.ntmps64
  go_upto_region 1 with fail
  have hO := HO.out
  clear HO
  generalize World.alloc _ _ = w3 at *
  obtain ⟨x, hx⟩ : ∃ x, w.heap.size = x := ⟨_, rfl⟩
  rw [hx] at hO ⊢
  clear hx
  obtain ⟨y, hy⟩ : ∃ y, x + 1 = y := ⟨_, rfl⟩
  rw [hy] at hO ⊢
  clear hy
  obtain ⟨z, hz⟩ : ∃ z, y + 1 = z := ⟨_, rfl⟩
  rw [hz] at hO ⊢
  clear hz
  have HO := Lib.hid hO
  obtain ⟨v0, v1, v2, v3, v4, v5⟩ := hO.op
  simp only at v0 v1 v2 v3 v4 v5
  have ma := hO.regs ka hka
  obtain ⟨_, g0, g1, g2, g3⟩ := hO.box.cells
  have mb := HO.out.regs kb hkb
  obtain ⟨hp1, hp2⟩ := HO.out.box.put (r' := ⟨0, im, false, true⟩)
  have HP := Lib.hid hp1
  have HPK := Lib.hid hp2
  clear hp1 hp2 hO
  go_wp2_with fail
  refine bodyPost_ret (results_cell_row rfl _ _ z 130 (resC ⟨0, im, false, true⟩) (0, 0) _ rfl HP.out.blk Tryz.underlying130 rfl size_res) rfl ?_
  rw [HRES.out]
  exact ResIs.of HO.out HPK.out
set_option maxHeartbeats 4000000 in
set_option maxRecDepth 100000 in
theorem res_outr (X : Nat → Int) (k : ByteArray) (d a b im t : Int) (q wb tb hb : Nat) (m : Nat → Int) (wt ht : Nat → Bool) (W : Int → Bool) (w : World) (R : RefAt w q wb tb hb m wt ht) (hW : ∀ p : Nat, p < 64 → wt p = W p) (hX : ∀ k, k < 64 → 0 ≤ X k ∧ X k < 4294967296)
    (hi : Ir.OpIn ⟨k, d, a, b, im, t⟩) (hk : Ir.kn k = 9) :
    Calls Tryz.prog 64 #[.agg (regL X).toArray, .pointer (some ⟨q, 0, none⟩), .agg #[.string k, .int .i64 d, .int .i64 a, .int .i64 b, .int .u32 im, .int .i64 t]] w (ResIs w (Ir.resOf X m W ⟨k, d, a, b, im, t⟩)) := by
  have hin := hi
  obtain ⟨_, hid, hia, hib, hil, his, him⟩ := hi
  simp only at hid hia hib hil his him
  obtain ⟨ka, rfl⟩ := Int.eq_ofNat_of_zero_le hia.1
  have hka : ka < 64 := by omega
  have hza : (ka : Int) < 64 := by omega
  have xa := hX ka hka
  obtain ⟨kb, rfl⟩ := Int.eq_ofNat_of_zero_le (hib (by omega)).1
  have hkb : kb < 64 := by have := hib (by omega); omega
  have hzb : (kb : Int) < 64 := by omega
  have xb := hX kb hkb
  have HK := Ir.kinds k 9 hk
  simp only [Nat.reduceBEq] at HK
  obtain ⟨k1, k2, k3, k4, k5, k6, k7, k8, k9, k10, k11, k12, k13, k14, k15, k16, k17, k18, k19, k20, k21, k22, k23, k24, k25, k26, k27⟩ := HK
  have HRES := Lib.hid (show Ir.resOf X m W ⟨k, d, (ka : Int), (kb : Int), im, t⟩ = ⟨0, X ka, false, true⟩ by unfold Ir.resOf; simp [hk, Ir.rg])
  have HO := Lib.hid (res_open w X k d (ka : Int) (kb : Int) im t 132 100)
  have HR := Lib.hid R
  have HW := Lib.hid hW
  have HX := Lib.hid hX
  clear R hW hid hia hib hil his hX
  go_enter Tryz.func64, Tryz.ntmps64
  go_upto_region 1 with fail
  have hO := HO.out
  clear HO
  generalize World.alloc _ _ = w3 at *
  obtain ⟨x, hx⟩ : ∃ x, w.heap.size = x := ⟨_, rfl⟩
  rw [hx] at hO ⊢
  clear hx
  obtain ⟨y, hy⟩ : ∃ y, x + 1 = y := ⟨_, rfl⟩
  rw [hy] at hO ⊢
  clear hy
  obtain ⟨z, hz⟩ : ∃ z, y + 1 = z := ⟨_, rfl⟩
  rw [hz] at hO ⊢
  clear hz
  have HO := Lib.hid hO
  obtain ⟨v0, v1, v2, v3, v4, v5⟩ := hO.op
  simp only at v0 v1 v2 v3 v4 v5
  have ma := hO.regs ka hka
  obtain ⟨_, g0, g1, g2, g3⟩ := hO.box.cells
  have mb := HO.out.regs kb hkb
  obtain ⟨hp1, hp2⟩ := HO.out.box.put (r' := ⟨0, X ka, false, true⟩)
  have HP := Lib.hid hp1
  have HPK := Lib.hid hp2
  clear hp1 hp2 hO
  go_wp2_with fail
  refine bodyPost_ret (results_cell_row rfl _ _ z 130 (resC ⟨0, X ka, false, true⟩) (0, 0) _ rfl HP.out.blk Tryz.underlying130 rfl size_res) rfl ?_
  rw [HRES.out]
  exact ResIs.of HO.out HPK.out
set_option maxHeartbeats 4000000 in
set_option maxRecDepth 100000 in
theorem res_loadu_ok (X : Nat → Int) (k : ByteArray) (d a b im t : Int) (q wb tb hb : Nat) (m : Nat → Int) (wt ht : Nat → Bool) (W : Int → Bool) (w : World) (R : RefAt w q wb tb hb m wt ht) (hW : ∀ p : Nat, p < 64 → wt p = W p) (hX : ∀ k, k < 64 → 0 ≤ X k ∧ X k < 4294967296)
    (hi : Ir.OpIn ⟨k, d, a, b, im, t⟩) (hk : Ir.kn k = 5) (nb : Nat) (hnb : nb = 1 ∨ nb = 2 ∨ nb = 4) (hbn : b = (nb : Int)) (hrc : rightC (Ir.adr (Ir.rg X a) im) nb = 0) :
    Calls Tryz.prog 64 #[.agg (regL X).toArray, .pointer (some ⟨q, 0, none⟩), .agg #[.string k, .int .i64 d, .int .i64 a, .int .i64 b, .int .u32 im, .int .i64 t]] w (ResIs w (Ir.resOf X m W ⟨k, d, a, b, im, t⟩)) := by
  have hin := hi
  obtain ⟨_, hid, hia, hib, hil, his, him⟩ := hi
  simp only at hid hia hib hil his him
  obtain ⟨ka, rfl⟩ := Int.eq_ofNat_of_zero_le hia.1
  have hka : ka < 64 := by omega
  have hza : (ka : Int) < 64 := by omega
  have xa := hX ka hka
  subst hbn
  have HK := Ir.kinds k 5 hk
  simp only [Nat.reduceBEq] at HK
  obtain ⟨k1, k2, k3, k4, k5, k6, k7, k8, k9, k10, k11, k12, k13, k14, k15, k16, k17, k18, k19, k20, k21, k22, k23, k24, k25, k26, k27⟩ := HK
  obtain ⟨na, hna⟩ : ∃ na : Nat, Ir.adr (X ka) im = na := ⟨(Ir.adr (X ka) im).toNat, by unfold Ir.adr; omega⟩
  have hlt : na < 4294967296 := by unfold Ir.adr at hna; omega
  have had : (X ka + im) % 4294967296 = (na : Int) := hna
  have hrc2 : rightC (na : Int) nb = 0 := by rw [← hna]; exact hrc
  have HRES := Lib.hid (show Ir.resOf X m W ⟨k, d, (ka : Int), (nb : Int), im, t⟩ = ⟨Wd.wide (be m na nb) (8 * nb) false, 0, false, false⟩ by
    have e1 : Ir.adr (Ir.rg X (ka : Int)) im = (na : Int) := hna
    have e2 : ((nb : Int) : Int).natAbs = nb := by omega
    have e3 : decide ((nb : Int) < 0) = false := decide_eq_false (by omega)
    unfold Ir.resOf
    simp only [hk, e1, e2, e3]
    simp [hrc2, Int.toNat_natCast])
  have HLD := Lib.hid (fun (w3 : World) (kk : Keeps (fun _ => False) w w3) n => quiet_same (n := n) (rload_ok q wb tb hb m wt ht na nb false (w3.drewN n) ((R.keep kk ⟨fun h => h, fun h => h, fun h => h, fun h => h⟩).keep ((Keeps.refl (fun _ => False) w3).drewN n) ⟨fun h => h, fun h => h, fun h => h, fun h => h⟩) hrc2))
  have HPL := Lib.hid (fun (w3 : World) n => quiet_same (n := n) (rplus_any (X ka) im (w3.drewN n) xa him))
  rw [had] at HPL
  have hnb0 : 1 ≤ nb ∧ nb ≤ 4 := by omega
  have tl : decide ((nb : Int) < 0) = false := decide_eq_false (by omega)
  clear hrc hna had hnb hrc2
  have HO := Lib.hid (res_open w X k d (ka : Int) (nb : Int) im t 132 100)
  have HR := Lib.hid R
  have HW := Lib.hid hW
  have HX := Lib.hid hX
  clear R hW hid hia hib hil his hX
  go_enter Tryz.func64, Tryz.ntmps64
  go_upto_region 1 with fail
  have hO := HO.out
  clear HO
  generalize World.alloc _ _ = w3 at *
  obtain ⟨x, hx⟩ : ∃ x, w.heap.size = x := ⟨_, rfl⟩
  rw [hx] at hO ⊢
  clear hx
  obtain ⟨y, hy⟩ : ∃ y, x + 1 = y := ⟨_, rfl⟩
  rw [hy] at hO ⊢
  clear hy
  obtain ⟨z, hz⟩ : ∃ z, y + 1 = z := ⟨_, rfl⟩
  rw [hz] at hO ⊢
  clear hz
  have HO := Lib.hid hO
  obtain ⟨v0, v1, v2, v3, v4, v5⟩ := hO.op
  simp only at v0 v1 v2 v3 v4 v5
  have ma := hO.regs ka hka
  obtain ⟨_, g0, g1, g2, g3⟩ := hO.box.cells
  have HLD3 := Lib.hid (HLD.out w3 HO.out.k)
  clear HLD
  go_upto_region 20 with fail
  go_quiet (first | (go_at_call 67; exact HPL.out _ _) | (go_at_call 104; exact HLD3.out _))
  generalize hwd : World.drewN w3 _ = w4
  have hkd : Keeps (fun _ => False) w3 w4 := by rw [← hwd]; exact Keeps.of_drewN _ _ _
  have HO4 := Lib.hid (HO.out.keep hkd)
  clear hwd hkd hO v0 v1 v2 v3 v4 v5 ma g0 g1 g2 g3
  obtain ⟨_, g0, g1, g2, g3⟩ := HO4.out.box.cells
  obtain ⟨hp1, hp2⟩ := HO4.out.box.put (r' := ⟨Wd.wide (be m na nb) (8 * nb) false, 0, false, false⟩)
  have HP := Lib.hid hp1
  have HPK := Lib.hid hp2
  clear hp1 hp2
  go_wp2_with fail
  refine bodyPost_ret (results_cell_row rfl _ _ z 130 (resC ⟨Wd.wide (be m na nb) (8 * nb) false, 0, false, false⟩) (0, 0) _ rfl HP.out.blk Tryz.underlying130 rfl size_res) rfl ?_
  rw [HRES.out]
  exact ResIs.of HO4.out HPK.out
end Go.Proofs.YtknhfobcejpmeaaGreatDoor
