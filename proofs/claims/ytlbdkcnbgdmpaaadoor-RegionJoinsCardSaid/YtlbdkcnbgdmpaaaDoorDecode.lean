
/- The walk of code.Decode. -/
import Derived.Test.YtlbdkcnbgdmpaaaDoorFixed
import Derived.Deep.RegionHeld3
namespace Go.Proofs.YtlbdkcnbgdmpaaaDoor
open Go.RowKit Go.Deep
set_option linter.unusedVariables false

theorem alloc_set (w : World) (o : Obj) (a : Addr) (v : Value) (h : a.block < w.heap.size) : (w.alloc o).setCell a v = (w.setCell a v).alloc o := by
  unfold World.alloc World.setCell
  congr 1
  apply Array.ext_getElem?
  intro i
  simp only [Array.getElem?_modify, Array.getElem?_push, Array.size_modify]
  by_cases e : i = w.heap.size
  · subst e
    simp [show a.block ≠ w.heap.size by omega]
  · simp [e]
theorem iter_set_cell (w : World) (s : ByteArray) (k : Nat) (a : Addr) (v : Value) (h : a.block < w.heap.size) : (w.iter s k).setCell a v = (w.setCell a v).iter s k := alloc_set w _ a v h
theorem setCell_size (w : World) (a : Addr) (v : Value) : (w.setCell a v).heap.size = w.heap.size := by simp [World.setCell]
theorem field_bits (v : Int) (hv : 0 ≤ v ∧ v < 4294967296) :
    bits .and .u32 (v / 2097152) 31 = Cd.part v 21 5 ∧ bits .and .u32 (v / 65536) 31 = Cd.part v 16 5 ∧ bits .and .u32 (v / 2048) 31 = Cd.part v 11 5 ∧ bits .and .u32 (v / 64) 31 = Cd.part v 6 5 ∧ bits .and .u32 v 65535 = Cd.part v 0 16 ∧ bits .and .u32 v 67108863 = Cd.part v 0 26 := by
  have k : ∀ (x : Int) (n : Nat), 0 ≤ x → x < 4294967296 → ((2 : Int) ^ n - 1) < 4294967296 → bits .and .u32 x (2 ^ n - 1) = x % 2 ^ n := by
    intro x n h1 h2 h3
    have hp : (1 : Int) ≤ 2 ^ n := Int.pow_pos (by decide)
    rw [u32_and _ _ h1 h2 (by omega) h3]
    obtain ⟨m, rfl⟩ := Int.eq_ofNat_of_zero_le h1
    have e : ((2 : Int) ^ n - 1).toNat = 2 ^ n - 1 := by
      have : ((2 ^ n : Nat) : Int) = (2 : Int) ^ n := by simp
      omega
    rw [Int.toNat_natCast, e, Nat.and_two_pow_sub_one_eq_mod]
    simp
  refine ⟨?_, ?_, ?_, ?_, ?_, ?_⟩
  · exact k (v / 2097152) 5 (by omega) (by omega) (by decide)
  · exact k (v / 65536) 5 (by omega) (by omega) (by decide)
  · exact k (v / 2048) 5 (by omega) (by omega) (by decide)
  · exact k (v / 64) 5 (by omega) (by omega) (by decide)
  · have := k v 16 hv.1 hv.2 (by decide)
    rw [Cd.part]
    simpa using this
  · have := k v 26 hv.1 hv.2 (by decide)
    rw [Cd.part]
    simpa using this

theorem lay_rel {W0 wb : World} {yi op k : Nat} {v : Int} {fl : List UInt8} {c : UInt8} (J : Nat) (V : Value) (hlt : k < fl.length) (hc : fl[k] = c) (hsz : wb.heap.size = yi + 1) (hB : wb.heap[yi]? = some (.cells (insC (layTo op v (fl.take k))) 39 (0, 0)))
    (hK : Keeps (fun _ => False) W0 wb) (hlow : W0.heap.size ≤ yi) (hset : ∀ i, (insC i).setIfInBounds J V = insC (layF v i c)) :
    ((wb.iter ⟨fl.toArray⟩ (k + 1)).setCell ⟨yi, J, none⟩ V).drew = ((wb.setCell ⟨yi, J, none⟩ V).drew).iter ⟨fl.toArray⟩ (k + 1) ∧ ((wb.setCell ⟨yi, J, none⟩ V).drew).heap.size = yi + 1 ∧
      ((wb.setCell ⟨yi, J, none⟩ V).drew).heap[yi]? = some (.cells (insC (layTo op v (fl.take (k + 1)))) 39 (0, 0)) ∧ Keeps (fun _ => False) W0 ((wb.setCell ⟨yi, J, none⟩ V).drew) := by
  refine ⟨?_, (setCell_size wb _ _).trans hsz, ?_, (hK.setCell (a := ⟨yi, J, none⟩) (fun h => by simp only at h; omega) V).drew⟩
  · rw [iter_set_cell wb _ _ _ _ (by simp only; omega)]
    rfl
  · have := set_block hB J V
    rw [hset, ← hc, ← layTo_take op v fl k hlt] at this
    exact this
set_option maxRecDepth 100000 in
set_option maxHeartbeats 8000000 in
theorem decode_any (v : Int) (hv : 0 ≤ v ∧ v < 4294967296) (w : World) :
    Calls Tryd.prog 46 #[.int .u32 v] w fun e w' => e = .returned (.agg (insC (Cd.decOf v))) ∧ Keeps (fun _ => False) w w' := by
  have HV := Lib.hid hv
  go_enter Tryd.func46, Tryd.ntmps46
  go_wp2_with fail
  have hb0 := blk_alloc_new w (.cells #[.int .i64 0, .int .i64 0, .int .i64 0, .int .i64 0, .int .u32 0] 39)
  have K0 := Lib.hid ((Keeps.refl (fun _ => False) w).alloc (.cells #[.int .i64 0, .int .i64 0, .int .i64 0, .int .i64 0, .int .u32 0] 39))
  have HB0 := Lib.hid hb0
  have HX := Lib.hid (show w.heap.size < (w.alloc (.cells #[.int .i64 0, .int .i64 0, .int .i64 0, .int .i64 0, .int .u32 0] 39)).heap.size by simp)
  clear hb0
  generalize w.alloc (.cells #[.int .i64 0, .int .i64 0, .int .i64 0, .int .i64 0, .int .u32 0] 39) = W0 at *
  generalize hx0 : w.heap.size = x0 at *
  have HX0 := Lib.hid hx0
  clear hx0
  go_loopw [3] (fun s3 wr => ∃ op : Nat, 1 ≤ op ∧ op ≤ 54 ∧ s3 = .int .i64 op ∧ Keeps (fun _ => False) W0 wr ∧ Cd.decOf v = Cd.find v (54 - op) op) (fun s3 _ => 54 - (intOf s3).toNat)
  case atStart => exact ⟨1, by omega, by omega, rfl, Keeps.refl _ _, rfl⟩
  case round =>
    obtain ⟨op, ho1, ho2, rfl, hK, hF⟩ := hrel
    have HF := Lib.hid hF
    have HK := Lib.hid hK
    clear hF hK
    by_cases hlt : op < 54
    · go_wp2_with fail
      refine (of_any op hlt _).mono ?_
      rintro e w1 ⟨rfl, hk1⟩
      have HK1 := Lib.hid (HK.out.trans hk1 (fun _ _ h => h))
      clear hk1
      obtain ⟨rm1, rm2, rm3, rm4⟩ := row_fix op hlt
      have hS : shapeV op = .agg #[.string ⟨(Cd.row op).name.toArray⟩, .int .u32 (Cd.row op).major, .int .u32 (Cd.row op).minor, .string ⟨(Cd.row op).fields.toArray⟩, .string ⟨(Cd.kindS (Cd.row op).kd).toArray⟩] := rfl
      have hT : Cd.isRow v (Cd.row op) = (decide (v / 67108864 = (Cd.row op).major) && decide (bits .andNot .u32 v (maskOf (Cd.row op).fields) = fixV (Cd.row op).major (Cd.row op).minor)) := row_test v HV.out op ho1 hlt
      have hL := layTo_all op hlt v
      generalize (⟨(Cd.row op).name.toArray⟩ : ByteArray) = nm at *
      generalize (Cd.row op).fields = fl at *
      generalize (⟨(Cd.kindS (Cd.row op).kd).toArray⟩ : ByteArray) = ks at *
      generalize ((Cd.row op).major : Int) = mj at *
      generalize ((Cd.row op).minor : Int) = mn at *
      rw [hS]
      have HT := Lib.hid hT
      have HL := Lib.hid hL
      have HR3 := Lib.hid rm3
      have HR4 := Lib.hid rm4
      clear hS hT hL rm3 rm4
      go_wp2_with fail
      have hb1 := blk_alloc_new w1 (.cells #[.string nm, .int .u32 mj, .int .u32 mn, .string ⟨fl.toArray⟩, .string ks] 83)
      have kb1 := (Keeps.refl (fun _ => False) w1).alloc (.cells #[.string nm, .int .u32 mj, .int .u32 mn, .string ⟨fl.toArray⟩, .string ks] 83)
      generalize w1.alloc (.cells #[.string nm, .int .u32 mj, .int .u32 mn, .string ⟨fl.toArray⟩, .string ks] 83) = wb at *
      generalize w1.heap.size = x1 at *
      have HKb := Lib.hid (HK1.out.trans kb1 (fun _ _ h => h))
      obtain ⟨⟨c0, c1, c2, c3, c4⟩, _⟩ := cells5 hb1
      clear hb1 kb1
      have hsh : IntKind.u32.wrap (v / 67108864) = v / 67108864 := by rw [IntKind.wrap_u32']; omega
      by_cases t1 : v / 67108864 = mj
      · have t1' : (v / 67108864 != mj) = false := by rw [t1]; simp
        have hm := Lib.hid t1
        clear t1
        by_cases t2 : bits .andNot .u32 v (maskOf fl) = fixV mj mn
        · have t2' : (bits .andNot .u32 v (maskOf fl) != fixV mj mn) = false := by rw [t2]; simp
          have HI : Hid (Cd.isRow v (Cd.row op) = true) := Lib.hid (by rw [HT.out, t2, hm.out]; simp)
          clear t2
          go_region_held3 (fun w' => w'.cell? ⟨x1, 0, none⟩ = some (.string nm) ∧ w'.cell? ⟨x1, 0 + 1, none⟩ = some (.int .u32 mj) ∧ w'.cell? ⟨x1, 0 + 2, none⟩ = some (.int .u32 mn) ∧ w'.cell? ⟨x1, 0 + 3, none⟩ = some (.string ⟨fl.toArray⟩) ∧ w'.cell? ⟨x1, 0 + 4, none⟩ = some (.string ks) ∧ Keeps (fun _ => False) wb w')
            (first | (refine ⟨?_, ?_, ?_, ?_, ?_, ?_⟩ <;> first | ((repeat (first | exact Keeps.refl _ _ | assumption | apply Keeps.drew | apply Keeps.drewN | apply Keeps.alloc | (refine Keeps.trans ?_ (by assumption) (fun _ _ h => h)))); done) | (refine Keeps.cell' (S := fun _ => False) (w := wb) ?_ (by assumption) (fun f => f); (repeat (first | exact Keeps.refl _ _ | assumption | apply Keeps.drew | apply Keeps.drewN | apply Keeps.alloc | (refine Keeps.trans ?_ (by assumption) (fun _ _ h => h)))); done)) | (trace_state; fail))
            (first
              | (go_at_call 60; refine (mask_any fl HR4.out nm ks mj mn _).mono ?_; rintro e w2 ⟨rfl, hk2⟩)
              | (go_at_call 61; refine (fixed_any mj mn rm1 rm2 HR3.out nm ⟨fl.toArray⟩ ks _).mono ?_; rintro e w3 ⟨rfl, hk3⟩))
          rename_i hh
          obtain ⟨d0, d1, d2, d3, d4, hKh⟩ := hh
          have HKh := Lib.hid (HKb.out.trans hKh (fun _ _ h => h))
          have HI0 := Lib.hid (show Cd.decOf v = Cd.insOf op v by rw [HF.out, Cd.find_step v op hlt, HI.out, if_pos rfl])
          clear hKh hk2 hk3 c0 c1 c2 c3 c4 t1' t2'
          have hbi := blk_alloc_new w3 (.cells #[.int .i64 op, .int .i64 0, .int .i64 0, .int .i64 0, .int .u32 0] 39)
          have kbi := (Keeps.refl (fun _ => False) w3).alloc (.cells #[.int .i64 op, .int .i64 0, .int .i64 0, .int .i64 0, .int .u32 0] 39)
          have hsi : (w3.alloc (.cells #[.int .i64 op, .int .i64 0, .int .i64 0, .int .i64 0, .int .u32 0] 39)).heap.size = w3.heap.size + 1 := by simp
          have d3' := kbi.cell' d3 (fun f => f)
          simp only [Nat.zero_add] at d3'
          go_wp2_with fail
          generalize w3.alloc (.cells #[.int .i64 op, .int .i64 0, .int .i64 0, .int .i64 0, .int .u32 0] 39) = wi at *
          have HBI := Lib.hid (show wi.heap[w3.heap.size]? = some (.cells (insC (layTo op v (fl.take 0))) 39 (0, 0)) from hbi)
          have HKI := Lib.hid (HKh.out.trans kbi (fun _ _ h => h))
          have HSI := Lib.hid hsi
          have HLOW2 := Lib.hid (show W0.heap.size ≤ w3.heap.size from HKh.out.size)
          have HLOW := Lib.hid (show x0 < w3.heap.size by have := HKh.out.size; have := HX.out; omega)
          clear hbi kbi hsi d0 d1 d2 d3 d4 d3'
          generalize w3.heap.size = yi at *
          go_loopw [7] (fun _ wr' => ∃ (k : Nat) (wb : World), k ≤ fl.length ∧ wr' = wb.iter ⟨fl.toArray⟩ k ∧ wb.heap.size = yi + 1 ∧ wb.heap[yi]? = some (.cells (insC (layTo op v (fl.take k))) 39 (0, 0)) ∧ Keeps (fun _ => False) W0 wb) (fun _ wr' => fl.length - iterAt wr' (yi + 1))
          case atStart => exact ⟨0, wi, by omega, rfl, HSI.out, HBI.out, HKI.out⟩
          case round =>
            obtain ⟨k, wk, hk, rfl, hsk, hbk, hkk⟩ := hrel
            have HSK := Lib.hid hsk
            have HBK := Lib.hid hbk
            have HKK := Lib.hid hkk
            clear hsk hbk hkk
            by_cases hkl : k < fl.length
            · have hc := HR4.out fl[k] (List.getElem_mem hkl)
              have hfb := field_bits v HV.out
              have HFB := Lib.hid hfb
              clear hfb
              rcases hc with hc | hc | hc | hc | hc | hc
              all_goals
                have hn := fun ty => next_at wk (yi + 1) HSK.out fl k ty hkl _ hc (by decide) _ rfl
                have HC := Lib.hid hc
                clear hc
                go_wp2_with fail
                (first | with_reducible refine (place_83 _).mono ?_ | with_reducible refine (place_84 _).mono ?_ | with_reducible refine (place_68 _).mono ?_ | with_reducible refine (place_97 _).mono ?_ | with_reducible refine (place_105 _).mono ?_ | with_reducible refine (place_106 _).mono ?_)
                rintro e w' ⟨rfl, rfl⟩
                clear hn
                go_wp2_with fail
                go_still_tail 8, (by kernel_rfl)
                have HBX := Lib.hid (show ((wk.iter ⟨fl.toArray⟩ (k + 1)).drew).heap[yi]? = some (.cells (insC (layTo op v (fl.take k))) 39 (0, 0)) from (blk_alloc_lt wk _ yi (by have := HSK.out; omega)).trans HBK.out)
                change wpList _ _ _ _ _ (wk.iter ⟨fl.toArray⟩ (k + 1)).drew
                go_wp2_with fail
              · rw [show (32 : Int) - 1 = 31 from rfl, HFB.out.1]
                refine (lay_S yi (Cd.part v 21 5) _ _ _ (HBX.out) rfl (by have := Cd.part_rng v 21 5; simp only [Int.reducePow] at this; omega)).mono ?_
                rintro e w' ⟨rfl, rfl⟩
                have HREL := Lib.hid (lay_rel 1 (.int .i64 (Cd.part v 21 5)) hkl HC.out HSK.out HBK.out HKK.out HLOW2.out (fun i => by cases i; rfl))
                go_wp2_with fail
                go_roundw
                case rel => exact ⟨k + 1, _, by omega, HREL.out.1, HREL.out.2.1, HREL.out.2.2.1, HREL.out.2.2.2⟩
                case measure => rw [HREL.out.1, iterAt_iter _ _ HREL.out.2.1, iterAt_iter _ _ HSK.out]; omega
              · rw [show (32 : Int) - 1 = 31 from rfl, HFB.out.2.1]
                refine (lay_T yi (Cd.part v 16 5) _ _ _ (HBX.out) rfl (by have := Cd.part_rng v 16 5; simp only [Int.reducePow] at this; omega)).mono ?_
                rintro e w' ⟨rfl, rfl⟩
                have HREL := Lib.hid (lay_rel 2 (.int .i64 (Cd.part v 16 5)) hkl HC.out HSK.out HBK.out HKK.out HLOW2.out (fun i => by cases i; rfl))
                go_wp2_with fail
                go_roundw
                case rel => exact ⟨k + 1, _, by omega, HREL.out.1, HREL.out.2.1, HREL.out.2.2.1, HREL.out.2.2.2⟩
                case measure => rw [HREL.out.1, iterAt_iter _ _ HREL.out.2.1, iterAt_iter _ _ HSK.out]; omega
              · rw [show (32 : Int) - 1 = 31 from rfl, HFB.out.2.2.1]
                refine (lay_D yi (Cd.part v 11 5) _ _ _ (HBX.out) rfl (by have := Cd.part_rng v 11 5; simp only [Int.reducePow] at this; omega)).mono ?_
                rintro e w' ⟨rfl, rfl⟩
                have HREL := Lib.hid (lay_rel 3 (.int .i64 (Cd.part v 11 5)) hkl HC.out HSK.out HBK.out HKK.out HLOW2.out (fun i => by cases i; rfl))
                go_wp2_with fail
                go_roundw
                case rel => exact ⟨k + 1, _, by omega, HREL.out.1, HREL.out.2.1, HREL.out.2.2.1, HREL.out.2.2.2⟩
                case measure => rw [HREL.out.1, iterAt_iter _ _ HREL.out.2.1, iterAt_iter _ _ HSK.out]; omega
              · rw [show (32 : Int) - 1 = 31 from rfl, HFB.out.2.2.2.1]
                refine (lay_a yi (Cd.part v 6 5) _ _ _ (HBX.out) rfl (by have := Cd.part_rng v 6 5; simp only [Int.reducePow] at this; omega)).mono ?_
                rintro e w' ⟨rfl, rfl⟩
                have HREL := Lib.hid (lay_rel 4 (.int .u32 (Cd.part v 6 5)) hkl HC.out HSK.out HBK.out HKK.out HLOW2.out (fun i => by cases i; rfl))
                go_wp2_with fail
                go_roundw
                case rel => exact ⟨k + 1, _, by omega, HREL.out.1, HREL.out.2.1, HREL.out.2.2.1, HREL.out.2.2.2⟩
                case measure => rw [HREL.out.1, iterAt_iter _ _ HREL.out.2.1, iterAt_iter _ _ HSK.out]; omega
              · rw [show (65536 : Int) - 1 = 65535 from rfl, HFB.out.2.2.2.2.1]
                refine (lay_i yi (Cd.part v 0 16) _ _ _ (HBX.out) rfl (by have := Cd.part_rng v 0 16; simp only [Int.reducePow] at this; omega)).mono ?_
                rintro e w' ⟨rfl, rfl⟩
                have HREL := Lib.hid (lay_rel 4 (.int .u32 (Cd.part v 0 16)) hkl HC.out HSK.out HBK.out HKK.out HLOW2.out (fun i => by cases i; rfl))
                go_wp2_with fail
                go_roundw
                case rel => exact ⟨k + 1, _, by omega, HREL.out.1, HREL.out.2.1, HREL.out.2.2.1, HREL.out.2.2.2⟩
                case measure => rw [HREL.out.1, iterAt_iter _ _ HREL.out.2.1, iterAt_iter _ _ HSK.out]; omega
              · rw [show (67108864 : Int) - 1 = 67108863 from rfl, HFB.out.2.2.2.2.2]
                refine (lay_j yi (Cd.part v 0 26) _ _ _ (HBX.out) rfl (by have := Cd.part_rng v 0 26; simp only [Int.reducePow] at this; omega)).mono ?_
                rintro e w' ⟨rfl, rfl⟩
                have HREL := Lib.hid (lay_rel 4 (.int .u32 (Cd.part v 0 26)) hkl HC.out HSK.out HBK.out HKK.out HLOW2.out (fun i => by cases i; rfl))
                go_wp2_with fail
                go_roundw
                case rel => exact ⟨k + 1, _, by omega, HREL.out.1, HREL.out.2.1, HREL.out.2.2.1, HREL.out.2.2.2⟩
                case measure => rw [HREL.out.1, iterAt_iter _ _ HREL.out.2.1, iterAt_iter _ _ HSK.out]; omega
            · have hn := fun ty => next_end wk (yi + 1) HSK.out fl k ty hkl
              obtain rfl : k = fl.length := by omega
              have hbk2 : wk.heap[yi]? = some (.cells (insC (Cd.insOf op v)) 39 (0, 0)) := by
                have := HBK.out
                rwa [List.take_length, HL.out] at this
              have hbw : (wk.iter ⟨fl.toArray⟩ fl.length).heap[yi]? = some (.cells (insC (Cd.insOf op v)) 39 (0, 0)) := (blk_alloc_lt wk _ yi (by have := HSK.out; omega)).trans hbk2
              have hkw : Keeps (fun _ => False) W0 (wk.iter ⟨fl.toArray⟩ fl.length) := HKK.out.alloc _
              have h0 := (hkw.block x0 HX.out (fun f => f)).trans HB0.out
              have HKW := Lib.hid hkw
              have hI0 := HI0.out
              have HHI := Lib.hid (show (Cd.insOf op v) = (Cd.insOf op v) from rfl)
              generalize Cd.insOf op v = ins at *
              have HI1 := Lib.hid hI0
              obtain ⟨⟨g0, g1, g2, g3, g4⟩, _⟩ := cells5 (show (wk.iter ⟨fl.toArray⟩ fl.length).heap[yi]? = some (.cells #[.int .i64 ins.op, .int .i64 ins.S, .int .i64 ins.T, .int .i64 ins.D, .int .u32 ins.imm] 39 (0, 0)) from hbw)
              clear hI0 hkw hbk2 hbw
              obtain ⟨⟨c0, c1, c2, c3, c4⟩, f0, f1, f2, f3, f4⟩ := cells5 h0
              have H5 := Lib.hid (set5 (a' := .int .i64 ins.op) (b' := .int .i64 ins.S) (c' := .int .i64 ins.T) (d' := .int .i64 ins.D) (e' := .int .u32 ins.imm) h0)
              clear h0
              go_wp2_with fail
              generalize ((((((wk.iter ⟨fl.toArray⟩ fl.length).setCell ⟨x0, 0, none⟩ (.int .i64 ins.op)).setCell ⟨x0, 1, none⟩ (.int .i64 ins.S)).setCell ⟨x0, 2, none⟩ (.int .i64 ins.T)).setCell ⟨x0, 3, none⟩ (.int .i64 ins.D)).setCell ⟨x0, 4, none⟩ (.int .u32 ins.imm)) = WW at *
              obtain ⟨⟨d0, d1, d2, d3, d4⟩, _⟩ := cells5 H5.out.1
              refine bodyPost_ret (v := .agg #[.int .i64 ins.op, .int .i64 ins.S, .int .i64 ins.T, .int .i64 ins.D, .int .u32 ins.imm]) ?_ rfl ⟨by rw [HI1.out]; rfl, ?_⟩
              · simp only [Nat.zero_add] at d1 d2 d3 d4
                simp [results, Tryd.results46, go_sem, d0, d1, d2, d3, d4]
              · exact (K0.out.trans HKW.out (fun _ _ h => h)).trans H5.out.2 (fun k hk h => by have := HX0.out; omega)
        · have t2' : (bits .andNot .u32 v (maskOf fl) != fixV mj mn) = true := by simpa using t2
          have HI : Hid (Cd.isRow v (Cd.row op) = false) := Lib.hid (by rw [HT.out]; simp [t2])
          clear t2
          go_region_held3 (fun w' => w'.cell? ⟨x1, 0, none⟩ = some (.string nm) ∧ w'.cell? ⟨x1, 0 + 1, none⟩ = some (.int .u32 mj) ∧ w'.cell? ⟨x1, 0 + 2, none⟩ = some (.int .u32 mn) ∧ w'.cell? ⟨x1, 0 + 3, none⟩ = some (.string ⟨fl.toArray⟩) ∧ w'.cell? ⟨x1, 0 + 4, none⟩ = some (.string ks) ∧ Keeps (fun _ => False) wb w')
            (first | (refine ⟨?_, ?_, ?_, ?_, ?_, ?_⟩ <;> first | ((repeat (first | exact Keeps.refl _ _ | assumption | apply Keeps.drew | apply Keeps.drewN | apply Keeps.alloc | (refine Keeps.trans ?_ (by assumption) (fun _ _ h => h)))); done) | (refine Keeps.cell' (S := fun _ => False) (w := wb) ?_ (by assumption) (fun f => f); (repeat (first | exact Keeps.refl _ _ | assumption | apply Keeps.drew | apply Keeps.drewN | apply Keeps.alloc | (refine Keeps.trans ?_ (by assumption) (fun _ _ h => h)))); done)) | (trace_state; fail))
            (first
              | (go_at_call 60; refine (mask_any fl HR4.out nm ks mj mn _).mono ?_; rintro e w2 ⟨rfl, hk2⟩)
              | (go_at_call 61; refine (fixed_any mj mn rm1 rm2 HR3.out nm ⟨fl.toArray⟩ ks _).mono ?_; rintro e w3 ⟨rfl, hk3⟩))
          rename_i hh
          obtain ⟨d0, d1, d2, d3, d4, hKh⟩ := hh
          have HKh := Lib.hid (HKb.out.trans hKh (fun _ _ h => h))
          have HN := Lib.hid (show Cd.decOf v = Cd.find v (54 - (op + 1)) (op + 1) by rw [HF.out, Cd.find_step v op hlt, HI.out]; rfl)
          clear hKh hk2 hk3 c0 c1 c2 c3 c4 t1' t2' d0 d1 d2 d3 d4
          go_wp2_with fail
          go_roundw
          case rel => exact ⟨op + 1, by omega, by omega, by go_num, HKh.out, HN.out⟩
          case measure => simp [intOf]; omega
      · have t1' : (v / 67108864 != mj) = true := by simpa using t1
        have HI : Hid (Cd.isRow v (Cd.row op) = false) := Lib.hid (by rw [HT.out]; simp [t1])
        have HN := Lib.hid (show Cd.decOf v = Cd.find v (54 - (op + 1)) (op + 1) by rw [HF.out, Cd.find_step v op hlt, HI.out]; rfl)
        clear t1
        go_quiet (fail)
        go_wp2_with fail
        go_roundw
        case rel => exact ⟨op + 1, by omega, by omega, by go_num, HKb.out.drewN _, HN.out⟩
        case measure => simp [intOf]; omega
    · obtain rfl : op = 54 := by omega
      have HN := Lib.hid (show Cd.decOf v = Cd.none by rw [HF.out]; rfl)
      have h0 := (HK.out.block x0 HX.out (fun f => f)).trans HB0.out
      obtain ⟨⟨c0, c1, c2, c3, c4⟩, f0, f1, f2, f3, f4⟩ := cells5 h0
      have H5 := Lib.hid (set5 (a' := .int .i64 0) (b' := .int .i64 0) (c' := .int .i64 0) (d' := .int .i64 0) (e' := .int .u32 0) h0)
      clear h0
      go_wp2_with fail
      generalize (((((wr.setCell ⟨x0, 0, none⟩ (.int .i64 0)).setCell ⟨x0, 1, none⟩ (.int .i64 0)).setCell ⟨x0, 2, none⟩ (.int .i64 0)).setCell ⟨x0, 3, none⟩ (.int .i64 0)).setCell ⟨x0, 4, none⟩ (.int .u32 0)) = WW at *
      obtain ⟨⟨d0, d1, d2, d3, d4⟩, _⟩ := cells5 H5.out.1
      refine bodyPost_ret (v := .agg #[.int .i64 0, .int .i64 0, .int .i64 0, .int .i64 0, .int .u32 0]) ?_ rfl ⟨by rw [HN.out]; rfl, ?_⟩
      · simp only [Nat.zero_add] at d1 d2 d3 d4
        simp [results, Tryd.results46, go_sem, d0, d1, d2, d3, d4]
      · exact (K0.out.trans HK.out (fun _ _ h => h)).trans H5.out.2 (fun k hk h => by have := HX0.out; omega)
end Go.Proofs.YtlbdkcnbgdmpaaaDoor
