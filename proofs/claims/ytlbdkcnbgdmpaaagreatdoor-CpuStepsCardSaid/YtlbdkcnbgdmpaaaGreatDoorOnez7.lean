import Derived.Test.YtlbdkcnbgdmpaaaGreatDoorOnez6
import Derived.Deep.RegionHeld3
import Derived.Test.YtlbdkcnbgdmpaaaGreatDoorOnez0
import Derived.Deep.QuietTactic
import Derived.BigQuiet
import Derived.Deep.DeepCutAuto
import Derived.WalkLawsBesides
import Derived.Lib.Hide
import Derived.Test.YtlbdkcnbgdmpaaaGreatDoorOnez5
import Derived.BigRegion
import Derived.Laws.BitsAllLaws

/- Decode -/
/- The walk of code.Decode. -/
namespace Go.Proofs.YtlbdkcnbgdmpaaaGreatDoor
open Go.RowKit Go.Deep
set_option linter.unusedVariables false

theorem alloc_set (w : World) (o : Obj) (a : Addr) (v : Value) (h : a.block < w.heap.size) : (w.alloc o).setCell a v = (w.setCell a v).alloc o := by
  unfold World.alloc World.setCell
  congr 1
  apply Array.ext_getElem?
  intro i
  simp only [Array.getElem?_modify, Array.getElem?_push, Array.size_modify]
  by_cases e : i = w.heap.size
  · subst e
    simp [show a.block ≠ w.heap.size by omega]
  · simp [e]
theorem iter_set_cell (w : World) (s : ByteArray) (k : Nat) (a : Addr) (v : Value) (h : a.block < w.heap.size) : (w.iter s k).setCell a v = (w.setCell a v).iter s k := alloc_set w _ a v h
theorem setCell_size (w : World) (a : Addr) (v : Value) : (w.setCell a v).heap.size = w.heap.size := by simp [World.setCell]
theorem field_bits (v : Int) (hv : 0 ≤ v ∧ v < 4294967296) :
    bits .and .u32 (v / 2097152) 31 = Cd.part v 21 5 ∧ bits .and .u32 (v / 65536) 31 = Cd.part v 16 5 ∧ bits .and .u32 (v / 2048) 31 = Cd.part v 11 5 ∧ bits .and .u32 (v / 64) 31 = Cd.part v 6 5 ∧ bits .and .u32 v 65535 = Cd.part v 0 16 ∧ bits .and .u32 v 67108863 = Cd.part v 0 26 := by
  have k : ∀ (x : Int) (n : Nat), 0 ≤ x → x < 4294967296 → ((2 : Int) ^ n - 1) < 4294967296 → bits .and .u32 x (2 ^ n - 1) = x % 2 ^ n := by
    intro x n h1 h2 h3
    have hp : (1 : Int) ≤ 2 ^ n := Int.pow_pos (by decide)
    rw [u32_and _ _ h1 h2 (by omega) h3]
    obtain ⟨m, rfl⟩ := Int.eq_ofNat_of_zero_le h1
    have e : ((2 : Int) ^ n - 1).toNat = 2 ^ n - 1 := by
      have : ((2 ^ n : Nat) : Int) = (2 : Int) ^ n := by simp
      omega
    rw [Int.toNat_natCast, e, Nat.and_two_pow_sub_one_eq_mod]
    simp
  refine ⟨?_, ?_, ?_, ?_, ?_, ?_⟩
  · exact k (v / 2097152) 5 (by omega) (by omega) (by decide)
  · exact k (v / 65536) 5 (by omega) (by omega) (by decide)
  · exact k (v / 2048) 5 (by omega) (by omega) (by decide)
  · exact k (v / 64) 5 (by omega) (by omega) (by decide)
  · have := k v 16 hv.1 hv.2 (by decide)
    rw [Cd.part]
    simpa using this
  · have := k v 26 hv.1 hv.2 (by decide)
    rw [Cd.part]
    simpa using this

theorem lay_rel {W0 wb : World} {yi op k : Nat} {v : Int} {fl : List UInt8} {c : UInt8} (J : Nat) (V : Value) (hlt : k < fl.length) (hc : fl[k] = c) (hsz : wb.heap.size = yi + 1) (hB : wb.heap[yi]? = some (.cells (insC (layTo op v (fl.take k))) 80 (0, 0)))
    (hK : Keeps (fun _ => False) W0 wb) (hlow : W0.heap.size ≤ yi) (hset : ∀ i, (insC i).setIfInBounds J V = insC (layF v i c)) :
    ((wb.iter ⟨fl.toArray⟩ (k + 1)).setCell ⟨yi, J, none⟩ V).drew = ((wb.setCell ⟨yi, J, none⟩ V).drew).iter ⟨fl.toArray⟩ (k + 1) ∧ ((wb.setCell ⟨yi, J, none⟩ V).drew).heap.size = yi + 1 ∧
      ((wb.setCell ⟨yi, J, none⟩ V).drew).heap[yi]? = some (.cells (insC (layTo op v (fl.take (k + 1)))) 80 (0, 0)) ∧ Keeps (fun _ => False) W0 ((wb.setCell ⟨yi, J, none⟩ V).drew) := by
  refine ⟨?_, (setCell_size wb _ _).trans hsz, ?_, (hK.setCell (a := ⟨yi, J, none⟩) (fun h => by simp only at h; omega) V).drew⟩
  · rw [iter_set_cell wb _ _ _ _ (by simp only; omega)]
    rfl
  · have := set_block hB J V
    rw [hset, ← hc, ← layTo_take op v fl k hlt] at this
    exact this
set_option maxRecDepth 100000 in
set_option maxHeartbeats 8000000 in
theorem decode_any (v : Int) (hv : 0 ≤ v ∧ v < 4294967296) (w : World) :
    Calls Tryz.prog 36 #[.int .u32 v] w fun e w' => e = .returned (.agg (insC (Cd.decOf v))) ∧ Keeps (fun _ => False) w w' := by
  have HV := Lib.hid hv
  go_enter Tryz.func36, Tryz.ntmps36
  go_wp2_with fail
  have hb0 := blk_alloc_new w (.cells #[.int .i64 0, .int .i64 0, .int .i64 0, .int .i64 0, .int .u32 0] 80)
  have K0 := Lib.hid ((Keeps.refl (fun _ => False) w).alloc (.cells #[.int .i64 0, .int .i64 0, .int .i64 0, .int .i64 0, .int .u32 0] 80))
  have HB0 := Lib.hid hb0
  have HX := Lib.hid (show w.heap.size < (w.alloc (.cells #[.int .i64 0, .int .i64 0, .int .i64 0, .int .i64 0, .int .u32 0] 80)).heap.size by simp)
  clear hb0
  generalize w.alloc (.cells #[.int .i64 0, .int .i64 0, .int .i64 0, .int .i64 0, .int .u32 0] 80) = W0 at *
  generalize hx0 : w.heap.size = x0 at *
  have HX0 := Lib.hid hx0
  clear hx0
  go_loopw [3] (fun s3 wr => ∃ op : Nat, 1 ≤ op ∧ op ≤ 54 ∧ s3 = .int .i64 op ∧ Keeps (fun _ => False) W0 wr ∧ Cd.decOf v = Cd.find v (54 - op) op) (fun s3 _ => 54 - (intOf s3).toNat)
  case atStart => exact ⟨1, by omega, by omega, rfl, Keeps.refl _ _, rfl⟩
  case round =>
    obtain ⟨op, ho1, ho2, rfl, hK, hF⟩ := hrel
    have HF := Lib.hid hF
    have HK := Lib.hid hK
    clear hF hK
    by_cases hlt : op < 54
    · go_wp2_with fail
      refine (of_any op hlt _).mono ?_
      rintro e w1 ⟨rfl, hk1⟩
      have HK1 := Lib.hid (HK.out.trans hk1 (fun _ _ h => h))
      clear hk1
      obtain ⟨rm1, rm2, rm3, rm4⟩ := row_fix op hlt
      have hS : shapeV op = .agg #[.string ⟨(Cd.row op).name.toArray⟩, .int .u32 (Cd.row op).major, .int .u32 (Cd.row op).minor, .string ⟨(Cd.row op).fields.toArray⟩, .string ⟨(Cd.kindS (Cd.row op).kd).toArray⟩] := rfl
      have hT : Cd.isRow v (Cd.row op) = (decide (v / 67108864 = (Cd.row op).major) && decide (bits .andNot .u32 v (maskOf (Cd.row op).fields) = fixV (Cd.row op).major (Cd.row op).minor)) := row_test v HV.out op ho1 hlt
      have hL := layTo_all op hlt v
      generalize (⟨(Cd.row op).name.toArray⟩ : ByteArray) = nm at *
      generalize (Cd.row op).fields = fl at *
      generalize (⟨(Cd.kindS (Cd.row op).kd).toArray⟩ : ByteArray) = ks at *
      generalize ((Cd.row op).major : Int) = mj at *
      generalize ((Cd.row op).minor : Int) = mn at *
      rw [hS]
      have HT := Lib.hid hT
      have HL := Lib.hid hL
      have HR3 := Lib.hid rm3
      have HR4 := Lib.hid rm4
      clear hS hT hL rm3 rm4
      go_wp2_with fail
      have hb1 := blk_alloc_new w1 (.cells #[.string nm, .int .u32 mj, .int .u32 mn, .string ⟨fl.toArray⟩, .string ks] 97)
      have kb1 := (Keeps.refl (fun _ => False) w1).alloc (.cells #[.string nm, .int .u32 mj, .int .u32 mn, .string ⟨fl.toArray⟩, .string ks] 97)
      generalize w1.alloc (.cells #[.string nm, .int .u32 mj, .int .u32 mn, .string ⟨fl.toArray⟩, .string ks] 97) = wb at *
      generalize w1.heap.size = x1 at *
      have HKb := Lib.hid (HK1.out.trans kb1 (fun _ _ h => h))
      obtain ⟨⟨c0, c1, c2, c3, c4⟩, _⟩ := cells5 hb1
      clear hb1 kb1
      have hsh : IntKind.u32.wrap (v / 67108864) = v / 67108864 := by rw [IntKind.wrap_u32']; omega
      by_cases t1 : v / 67108864 = mj
      · have t1' : (v / 67108864 != mj) = false := by rw [t1]; simp
        have hm := Lib.hid t1
        clear t1
        by_cases t2 : bits .andNot .u32 v (maskOf fl) = fixV mj mn
        · have t2' : (bits .andNot .u32 v (maskOf fl) != fixV mj mn) = false := by rw [t2]; simp
          have HI : Hid (Cd.isRow v (Cd.row op) = true) := Lib.hid (by rw [HT.out, t2, hm.out]; simp)
          clear t2
          go_region_held3 (fun w' => w'.cell? ⟨x1, 0, none⟩ = some (.string nm) ∧ w'.cell? ⟨x1, 0 + 1, none⟩ = some (.int .u32 mj) ∧ w'.cell? ⟨x1, 0 + 2, none⟩ = some (.int .u32 mn) ∧ w'.cell? ⟨x1, 0 + 3, none⟩ = some (.string ⟨fl.toArray⟩) ∧ w'.cell? ⟨x1, 0 + 4, none⟩ = some (.string ks) ∧ Keeps (fun _ => False) wb w')
            (first | (refine ⟨?_, ?_, ?_, ?_, ?_, ?_⟩ <;> first | ((repeat (first | exact Keeps.refl _ _ | assumption | apply Keeps.drew | apply Keeps.drewN | apply Keeps.alloc | (refine Keeps.trans ?_ (by assumption) (fun _ _ h => h)))); done) | (refine Keeps.cell' (S := fun _ => False) (w := wb) ?_ (by assumption) (fun f => f); (repeat (first | exact Keeps.refl _ _ | assumption | apply Keeps.drew | apply Keeps.drewN | apply Keeps.alloc | (refine Keeps.trans ?_ (by assumption) (fun _ _ h => h)))); done)) | (trace_state; fail))
            (first
              | (go_at_call 49; refine (mask_any fl HR4.out nm ks mj mn _).mono ?_; rintro e w2 ⟨rfl, hk2⟩)
              | (go_at_call 50; refine (fixed_any mj mn rm1 rm2 HR3.out nm ⟨fl.toArray⟩ ks _).mono ?_; rintro e w3 ⟨rfl, hk3⟩))
          rename_i hh
          obtain ⟨d0, d1, d2, d3, d4, hKh⟩ := hh
          have HKh := Lib.hid (HKb.out.trans hKh (fun _ _ h => h))
          have HI0 := Lib.hid (show Cd.decOf v = Cd.insOf op v by rw [HF.out, Cd.find_step v op hlt, HI.out, if_pos rfl])
          clear hKh hk2 hk3 c0 c1 c2 c3 c4 t1' t2'
          have hbi := blk_alloc_new w3 (.cells #[.int .i64 op, .int .i64 0, .int .i64 0, .int .i64 0, .int .u32 0] 80)
          have kbi := (Keeps.refl (fun _ => False) w3).alloc (.cells #[.int .i64 op, .int .i64 0, .int .i64 0, .int .i64 0, .int .u32 0] 80)
          have hsi : (w3.alloc (.cells #[.int .i64 op, .int .i64 0, .int .i64 0, .int .i64 0, .int .u32 0] 80)).heap.size = w3.heap.size + 1 := by simp
          have d3' := kbi.cell' d3 (fun f => f)
          simp only [Nat.zero_add] at d3'
          go_wp2_with fail
          generalize w3.alloc (.cells #[.int .i64 op, .int .i64 0, .int .i64 0, .int .i64 0, .int .u32 0] 80) = wi at *
          have HBI := Lib.hid (show wi.heap[w3.heap.size]? = some (.cells (insC (layTo op v (fl.take 0))) 80 (0, 0)) from hbi)
          have HKI := Lib.hid (HKh.out.trans kbi (fun _ _ h => h))
          have HSI := Lib.hid hsi
          have HLOW2 := Lib.hid (show W0.heap.size ≤ w3.heap.size from HKh.out.size)
          have HLOW := Lib.hid (show x0 < w3.heap.size by have := HKh.out.size; have := HX.out; omega)
          clear hbi kbi hsi d0 d1 d2 d3 d4 d3'
          generalize w3.heap.size = yi at *
          go_loopw [7] (fun _ wr' => ∃ (k : Nat) (wb : World), k ≤ fl.length ∧ wr' = wb.iter ⟨fl.toArray⟩ k ∧ wb.heap.size = yi + 1 ∧ wb.heap[yi]? = some (.cells (insC (layTo op v (fl.take k))) 80 (0, 0)) ∧ Keeps (fun _ => False) W0 wb) (fun _ wr' => fl.length - iterAt wr' (yi + 1))
          case atStart => exact ⟨0, wi, by omega, rfl, HSI.out, HBI.out, HKI.out⟩
          case round =>
            obtain ⟨k, wk, hk, rfl, hsk, hbk, hkk⟩ := hrel
            have HSK := Lib.hid hsk
            have HBK := Lib.hid hbk
            have HKK := Lib.hid hkk
            clear hsk hbk hkk
            by_cases hkl : k < fl.length
            · have hc := HR4.out fl[k] (List.getElem_mem hkl)
              have hfb := field_bits v HV.out
              have HFB := Lib.hid hfb
              clear hfb
              rcases hc with hc | hc | hc | hc | hc | hc
              all_goals
                have hn := fun ty => next_at wk (yi + 1) HSK.out fl k ty hkl _ hc (by decide) _ rfl
                have HC := Lib.hid hc
                clear hc
                go_wp2_with fail
                (first | with_reducible refine (place_83 _).mono ?_ | with_reducible refine (place_84 _).mono ?_ | with_reducible refine (place_68 _).mono ?_ | with_reducible refine (place_97 _).mono ?_ | with_reducible refine (place_105 _).mono ?_ | with_reducible refine (place_106 _).mono ?_)
                rintro e w' ⟨rfl, rfl⟩
                clear hn
                go_wp2_with fail
                go_still_tail 8, (by kernel_rfl)
                have HBX := Lib.hid (show ((wk.iter ⟨fl.toArray⟩ (k + 1)).drew).heap[yi]? = some (.cells (insC (layTo op v (fl.take k))) 80 (0, 0)) from (blk_alloc_lt wk _ yi (by have := HSK.out; omega)).trans HBK.out)
                change wpList _ _ _ _ _ (wk.iter ⟨fl.toArray⟩ (k + 1)).drew
                go_wp2_with fail
              · rw [show (32 : Int) - 1 = 31 from rfl, HFB.out.1]
                refine (lay_S yi (Cd.part v 21 5) _ _ _ (HBX.out) rfl (by have := Cd.part_rng v 21 5; simp only [Int.reducePow] at this; omega)).mono ?_
                rintro e w' ⟨rfl, rfl⟩
                have HREL := Lib.hid (lay_rel 1 (.int .i64 (Cd.part v 21 5)) hkl HC.out HSK.out HBK.out HKK.out HLOW2.out (fun i => by cases i; rfl))
                go_wp2_with fail
                go_roundw
                case rel => exact ⟨k + 1, _, by omega, HREL.out.1, HREL.out.2.1, HREL.out.2.2.1, HREL.out.2.2.2⟩
                case measure => rw [HREL.out.1, iterAt_iter _ _ HREL.out.2.1, iterAt_iter _ _ HSK.out]; omega
              · rw [show (32 : Int) - 1 = 31 from rfl, HFB.out.2.1]
                refine (lay_T yi (Cd.part v 16 5) _ _ _ (HBX.out) rfl (by have := Cd.part_rng v 16 5; simp only [Int.reducePow] at this; omega)).mono ?_
                rintro e w' ⟨rfl, rfl⟩
                have HREL := Lib.hid (lay_rel 2 (.int .i64 (Cd.part v 16 5)) hkl HC.out HSK.out HBK.out HKK.out HLOW2.out (fun i => by cases i; rfl))
                go_wp2_with fail
                go_roundw
                case rel => exact ⟨k + 1, _, by omega, HREL.out.1, HREL.out.2.1, HREL.out.2.2.1, HREL.out.2.2.2⟩
                case measure => rw [HREL.out.1, iterAt_iter _ _ HREL.out.2.1, iterAt_iter _ _ HSK.out]; omega
              · rw [show (32 : Int) - 1 = 31 from rfl, HFB.out.2.2.1]
                refine (lay_D yi (Cd.part v 11 5) _ _ _ (HBX.out) rfl (by have := Cd.part_rng v 11 5; simp only [Int.reducePow] at this; omega)).mono ?_
                rintro e w' ⟨rfl, rfl⟩
                have HREL := Lib.hid (lay_rel 3 (.int .i64 (Cd.part v 11 5)) hkl HC.out HSK.out HBK.out HKK.out HLOW2.out (fun i => by cases i; rfl))
                go_wp2_with fail
                go_roundw
                case rel => exact ⟨k + 1, _, by omega, HREL.out.1, HREL.out.2.1, HREL.out.2.2.1, HREL.out.2.2.2⟩
                case measure => rw [HREL.out.1, iterAt_iter _ _ HREL.out.2.1, iterAt_iter _ _ HSK.out]; omega
              · rw [show (32 : Int) - 1 = 31 from rfl, HFB.out.2.2.2.1]
                refine (lay_a yi (Cd.part v 6 5) _ _ _ (HBX.out) rfl (by have := Cd.part_rng v 6 5; simp only [Int.reducePow] at this; omega)).mono ?_
                rintro e w' ⟨rfl, rfl⟩
                have HREL := Lib.hid (lay_rel 4 (.int .u32 (Cd.part v 6 5)) hkl HC.out HSK.out HBK.out HKK.out HLOW2.out (fun i => by cases i; rfl))
                go_wp2_with fail
                go_roundw
                case rel => exact ⟨k + 1, _, by omega, HREL.out.1, HREL.out.2.1, HREL.out.2.2.1, HREL.out.2.2.2⟩
                case measure => rw [HREL.out.1, iterAt_iter _ _ HREL.out.2.1, iterAt_iter _ _ HSK.out]; omega
              · rw [show (65536 : Int) - 1 = 65535 from rfl, HFB.out.2.2.2.2.1]
                refine (lay_i yi (Cd.part v 0 16) _ _ _ (HBX.out) rfl (by have := Cd.part_rng v 0 16; simp only [Int.reducePow] at this; omega)).mono ?_
                rintro e w' ⟨rfl, rfl⟩
                have HREL := Lib.hid (lay_rel 4 (.int .u32 (Cd.part v 0 16)) hkl HC.out HSK.out HBK.out HKK.out HLOW2.out (fun i => by cases i; rfl))
                go_wp2_with fail
                go_roundw
                case rel => exact ⟨k + 1, _, by omega, HREL.out.1, HREL.out.2.1, HREL.out.2.2.1, HREL.out.2.2.2⟩
                case measure => rw [HREL.out.1, iterAt_iter _ _ HREL.out.2.1, iterAt_iter _ _ HSK.out]; omega
              · rw [show (67108864 : Int) - 1 = 67108863 from rfl, HFB.out.2.2.2.2.2]
                refine (lay_j yi (Cd.part v 0 26) _ _ _ (HBX.out) rfl (by have := Cd.part_rng v 0 26; simp only [Int.reducePow] at this; omega)).mono ?_
                rintro e w' ⟨rfl, rfl⟩
                have HREL := Lib.hid (lay_rel 4 (.int .u32 (Cd.part v 0 26)) hkl HC.out HSK.out HBK.out HKK.out HLOW2.out (fun i => by cases i; rfl))
                go_wp2_with fail
                go_roundw
                case rel => exact ⟨k + 1, _, by omega, HREL.out.1, HREL.out.2.1, HREL.out.2.2.1, HREL.out.2.2.2⟩
                case measure => rw [HREL.out.1, iterAt_iter _ _ HREL.out.2.1, iterAt_iter _ _ HSK.out]; omega
            · have hn := fun ty => next_end wk (yi + 1) HSK.out fl k ty hkl
              obtain rfl : k = fl.length := by omega
              have hbk2 : wk.heap[yi]? = some (.cells (insC (Cd.insOf op v)) 80 (0, 0)) := by
                have := HBK.out
                rwa [List.take_length, HL.out] at this
              have hbw : (wk.iter ⟨fl.toArray⟩ fl.length).heap[yi]? = some (.cells (insC (Cd.insOf op v)) 80 (0, 0)) := (blk_alloc_lt wk _ yi (by have := HSK.out; omega)).trans hbk2
              have hkw : Keeps (fun _ => False) W0 (wk.iter ⟨fl.toArray⟩ fl.length) := HKK.out.alloc _
              have h0 := (hkw.block x0 HX.out (fun f => f)).trans HB0.out
              have HKW := Lib.hid hkw
              have hI0 := HI0.out
              have HHI := Lib.hid (show (Cd.insOf op v) = (Cd.insOf op v) from rfl)
              generalize Cd.insOf op v = ins at *
              have HI1 := Lib.hid hI0
              obtain ⟨⟨g0, g1, g2, g3, g4⟩, _⟩ := cells5 (show (wk.iter ⟨fl.toArray⟩ fl.length).heap[yi]? = some (.cells #[.int .i64 ins.op, .int .i64 ins.S, .int .i64 ins.T, .int .i64 ins.D, .int .u32 ins.imm] 80 (0, 0)) from hbw)
              clear hI0 hkw hbk2 hbw
              obtain ⟨⟨c0, c1, c2, c3, c4⟩, f0, f1, f2, f3, f4⟩ := cells5 h0
              have H5 := Lib.hid (set5 (a' := .int .i64 ins.op) (b' := .int .i64 ins.S) (c' := .int .i64 ins.T) (d' := .int .i64 ins.D) (e' := .int .u32 ins.imm) h0)
              clear h0
              go_wp2_with fail
              generalize ((((((wk.iter ⟨fl.toArray⟩ fl.length).setCell ⟨x0, 0, none⟩ (.int .i64 ins.op)).setCell ⟨x0, 1, none⟩ (.int .i64 ins.S)).setCell ⟨x0, 2, none⟩ (.int .i64 ins.T)).setCell ⟨x0, 3, none⟩ (.int .i64 ins.D)).setCell ⟨x0, 4, none⟩ (.int .u32 ins.imm)) = WW at *
              obtain ⟨⟨d0, d1, d2, d3, d4⟩, _⟩ := cells5 H5.out.1
              refine bodyPost_ret (v := .agg #[.int .i64 ins.op, .int .i64 ins.S, .int .i64 ins.T, .int .i64 ins.D, .int .u32 ins.imm]) ?_ rfl ⟨by rw [HI1.out]; rfl, ?_⟩
              · simp only [Nat.zero_add] at d1 d2 d3 d4
                simp [results, Tryz.results36, go_sem, d0, d1, d2, d3, d4]
              · exact (K0.out.trans HKW.out (fun _ _ h => h)).trans H5.out.2 (fun k hk h => by have := HX0.out; omega)
        · have t2' : (bits .andNot .u32 v (maskOf fl) != fixV mj mn) = true := by simpa using t2
          have HI : Hid (Cd.isRow v (Cd.row op) = false) := Lib.hid (by rw [HT.out]; simp [t2])
          clear t2
          go_region_held3 (fun w' => w'.cell? ⟨x1, 0, none⟩ = some (.string nm) ∧ w'.cell? ⟨x1, 0 + 1, none⟩ = some (.int .u32 mj) ∧ w'.cell? ⟨x1, 0 + 2, none⟩ = some (.int .u32 mn) ∧ w'.cell? ⟨x1, 0 + 3, none⟩ = some (.string ⟨fl.toArray⟩) ∧ w'.cell? ⟨x1, 0 + 4, none⟩ = some (.string ks) ∧ Keeps (fun _ => False) wb w')
            (first | (refine ⟨?_, ?_, ?_, ?_, ?_, ?_⟩ <;> first | ((repeat (first | exact Keeps.refl _ _ | assumption | apply Keeps.drew | apply Keeps.drewN | apply Keeps.alloc | (refine Keeps.trans ?_ (by assumption) (fun _ _ h => h)))); done) | (refine Keeps.cell' (S := fun _ => False) (w := wb) ?_ (by assumption) (fun f => f); (repeat (first | exact Keeps.refl _ _ | assumption | apply Keeps.drew | apply Keeps.drewN | apply Keeps.alloc | (refine Keeps.trans ?_ (by assumption) (fun _ _ h => h)))); done)) | (trace_state; fail))
            (first
              | (go_at_call 49; refine (mask_any fl HR4.out nm ks mj mn _).mono ?_; rintro e w2 ⟨rfl, hk2⟩)
              | (go_at_call 50; refine (fixed_any mj mn rm1 rm2 HR3.out nm ⟨fl.toArray⟩ ks _).mono ?_; rintro e w3 ⟨rfl, hk3⟩))
          rename_i hh
          obtain ⟨d0, d1, d2, d3, d4, hKh⟩ := hh
          have HKh := Lib.hid (HKb.out.trans hKh (fun _ _ h => h))
          have HN := Lib.hid (show Cd.decOf v = Cd.find v (54 - (op + 1)) (op + 1) by rw [HF.out, Cd.find_step v op hlt, HI.out]; rfl)
          clear hKh hk2 hk3 c0 c1 c2 c3 c4 t1' t2' d0 d1 d2 d3 d4
          go_wp2_with fail
          go_roundw
          case rel => exact ⟨op + 1, by omega, by omega, by go_num, HKh.out, HN.out⟩
          case measure => simp [intOf]; omega
      · have t1' : (v / 67108864 != mj) = true := by simpa using t1
        have HI : Hid (Cd.isRow v (Cd.row op) = false) := Lib.hid (by rw [HT.out]; simp [t1])
        have HN := Lib.hid (show Cd.decOf v = Cd.find v (54 - (op + 1)) (op + 1) by rw [HF.out, Cd.find_step v op hlt, HI.out]; rfl)
        clear t1
        go_quiet (fail)
        go_wp2_with fail
        go_roundw
        case rel => exact ⟨op + 1, by omega, by omega, by go_num, HKb.out.drewN _, HN.out⟩
        case measure => simp [intOf]; omega
    · obtain rfl : op = 54 := by omega
      have HN := Lib.hid (show Cd.decOf v = Cd.none by rw [HF.out]; rfl)
      have h0 := (HK.out.block x0 HX.out (fun f => f)).trans HB0.out
      obtain ⟨⟨c0, c1, c2, c3, c4⟩, f0, f1, f2, f3, f4⟩ := cells5 h0
      have H5 := Lib.hid (set5 (a' := .int .i64 0) (b' := .int .i64 0) (c' := .int .i64 0) (d' := .int .i64 0) (e' := .int .u32 0) h0)
      clear h0
      go_wp2_with fail
      generalize (((((wr.setCell ⟨x0, 0, none⟩ (.int .i64 0)).setCell ⟨x0, 1, none⟩ (.int .i64 0)).setCell ⟨x0, 2, none⟩ (.int .i64 0)).setCell ⟨x0, 3, none⟩ (.int .i64 0)).setCell ⟨x0, 4, none⟩ (.int .u32 0)) = WW at *
      obtain ⟨⟨d0, d1, d2, d3, d4⟩, _⟩ := cells5 H5.out.1
      refine bodyPost_ret (v := .agg #[.int .i64 0, .int .i64 0, .int .i64 0, .int .i64 0, .int .u32 0]) ?_ rfl ⟨by rw [HN.out]; rfl, ?_⟩
      · simp only [Nat.zero_add] at d1 d2 d3 d4
        simp [results, Tryz.results36, go_sem, d0, d1, d2, d3, d4]
      · exact (K0.out.trans HK.out (fun _ _ h => h)).trans H5.out.2 (fun k hk h => by have := HX0.out; omega)
end Go.Proofs.YtlbdkcnbgdmpaaaGreatDoor

/- Sums -/
/- The walks of word.Less, Add, Sub, Shift, Mul, Div. -/
namespace Go.Proofs.YtlbdkcnbgdmpaaaGreatDoor
open Go.RowKit
set_option linter.unusedVariables false

theorem ret_bool {a b : Bool} (h : a = b) : Ending.returned (.bool a) = .returned (.bool b) := by rw [h]
theorem ret_int_bool {k : IntKind} {a b : Int} {c d : Bool} (h : a = b) (h' : c = d) : Ending.returned (.tuple #[.int k a, .bool c]) = .returned (.tuple #[.int k b, .bool d]) := by rw [h, h']
theorem ret_int_int {k l : IntKind} {a b c d : Int} (h : a = b) (h' : c = d) : Ending.returned (.tuple #[.int k a, .int l c]) = .returned (.tuple #[.int k b, .int l d]) := by rw [h, h']

set_option maxHeartbeats 400000 in
theorem less_any (a b : Int) (s : Bool) (w : World) (ha : 0 ≤ a ∧ a < 4294967296) (hb : 0 ≤ b ∧ b < 4294967296) :
    Calls Tryz.prog 80 #[.int .u32 a, .int .u32 b, .bool s] w fun e w' => e = .returned (.bool (Wd.less a b s)) ∧ w = w' := by
  have h1 := Wd.sg_wrap a ha.1 ha.2
  have h2 := Wd.sg_wrap b hb.1 hb.2
  have H1 := Lib.hid h1
  have H2 := Lib.hid h2
  clear h1 h2
  cases s
  all_goals
    go_enter Tryz.func80, Tryz.ntmps80
    go_wp2
    go_ret
  · exact ⟨rfl, rfl⟩
  · exact ⟨ret_bool (by rw [H1.out, H2.out]; rfl), rfl⟩

set_option maxHeartbeats 400000 in
theorem add_any (a b : Int) (w : World) (ha : 0 ≤ a ∧ a < 4294967296) (hb : 0 ≤ b ∧ b < 4294967296) :
    Calls Tryz.prog 78 #[.int .u32 a, .int .u32 b] w fun e w' => e = .returned (.tuple #[.int .u32 ((a + b) % 4294967296), .bool (!Wd.isS (Wd.sg a + Wd.sg b))]) ∧ w = w' := by
  go_enter Tryz.func78, Tryz.ntmps78
  go_wp2
  go_ret2
  exact ⟨ret_int_bool rfl (Wd.add_over a b ha hb), rfl⟩

set_option maxHeartbeats 400000 in
theorem sub_any (a b : Int) (w : World) (ha : 0 ≤ a ∧ a < 4294967296) (hb : 0 ≤ b ∧ b < 4294967296) :
    Calls Tryz.prog 82 #[.int .u32 a, .int .u32 b] w fun e w' => e = .returned (.tuple #[.int .u32 ((a - b) % 4294967296), .bool (!Wd.isS (Wd.sg a - Wd.sg b))]) ∧ w = w' := by
  go_enter Tryz.func82, Tryz.ntmps82
  go_wp2
  go_ret2
  exact ⟨ret_int_bool rfl (Wd.sub_over a b ha hb), rfl⟩

theorem ret_iib {k l : IntKind} {a b c d : Int} {e f : Bool} (h : a = b) (h' : c = d) (h'' : e = f) : Ending.returned (.tuple #[.int k a, .int l c, .bool e]) = .returned (.tuple #[.int k b, .int l d, .bool f]) := by rw [h, h', h'']

set_option maxHeartbeats 400000 in
theorem shift_any (k a n : Int) (w : World) (ha : 0 ≤ a ∧ a < 4294967296) (hn : 0 ≤ n ∧ n < 4294967296) :
    Calls Tryz.prog 81 #[.int .u8 k, .int .u32 a, .int .u32 n] w fun e w' => e = .returned (.int .u32 (Wd.shift k a n)) ∧ w = w' := by
  have H : Hid (Wd.shift k a n = if k = 60 then a * 2 ^ (n % 32).toNat % 4294967296 else if k = 62 then a / 2 ^ (n % 32).toNat else if k = 126 then Wd.sg a / 2 ^ (n % 32).toNat % 4294967296 else a) := Lib.hid rfl
  have H1 := Lib.hid (Wd.sg_wrap a ha.1 ha.2)
  go_enter Tryz.func81, Tryz.ntmps81
  go_wp2
  all_goals
    go_ret
    refine ⟨ret_i ?_, rfl⟩
    simp only [beq_iff_eq, beq_eq_false_iff_ne, ne_eq] at *
    have H := H.out
    have H1 := H1.out
    rw [H]
    simp only [*, if_true, if_false]
    try rfl

set_option maxHeartbeats 400000 in
theorem mul_any (a b : Int) (s : Bool) (w : World) (ha : 0 ≤ a ∧ a < 4294967296) (hb : 0 ≤ b ∧ b < 4294967296) :
    Calls Tryz.prog 92 #[.int .u32 a, .int .u32 b, .bool s] w fun e w' => e = .returned (.tuple #[.int .u32 (Wd.hi a b s), .int .u32 (Wd.lo a b s)]) ∧ w = w' := by
  cases s
  · go_enter Tryz.func92, Tryz.ntmps92
    go_wp2
    go_ret2
    exact ⟨ret_int_int (Wd.mul_u a b).1 (Wd.mul_u a b).2, rfl⟩
  · go_enter Tryz.func92, Tryz.ntmps92
    go_wp2
    go_ret2
    exact ⟨ret_int_int (Wd.mul_s a b ha hb).1 (Wd.mul_s a b ha hb).2, rfl⟩

set_option maxHeartbeats 400000 in
theorem div_any (a b : Int) (s : Bool) (w : World) (ha : 0 ≤ a ∧ a < 4294967296) (hb : 0 ≤ b ∧ b < 4294967296) :
    Calls Tryz.prog 93 #[.int .u32 a, .int .u32 b, .bool s] w fun e w' => e = .returned (.tuple #[.int .u32 (Wd.quo a b s), .int .u32 (Wd.rst a b s), .bool (b != 0)]) ∧ ∃ n, w' = w.drewN n := by
  have e1 := Wd.sg_wrap a ha.1 ha.2
  have e2 := Wd.sg_wrap b hb.1 hb.2
  by_cases hz : b = 0
  · subst hz
    clear e1 e2
    go_enter Tryz.func93, Tryz.ntmps93
    go_wp2
    go_ret3
    exact ⟨ret_iib (Wd.quo_0 a s).symm (Wd.rst_0 a s).symm rfl, 0, rfl⟩
  · have hz0 : (b == 0) = false := by simpa using hz
    have hz2 : (b != 0) = true := by simpa using hz
    have HZ := Lib.hid hz2
    clear hz2
    cases s
    · clear e1 e2
      go_enter Tryz.func93, Tryz.ntmps93
      go_wp2
      go_quiet (fail)
      go_wp2
      go_ret3
      refine ⟨ret_iib ?_ ?_ HZ.out.symm, _, rfl⟩
      · exact (Wd.quo_u a b hz).symm
      · exact (Wd.rst_u a b hz).symm
    · by_cases hm : wrap32 a = -2147483648 ∧ wrap32 b = -1
      · obtain ⟨m1, m2⟩ := hm
        have m3 : (wrap32 a == -2147483648) = true := by simpa using m1
        have m4 : (wrap32 b == -1) = true := by simpa using m2
        have K1 : Hid ((Wd.sg a).tdiv (Wd.sg b) % 4294967296 = a ∧ (Wd.sg a).tmod (Wd.sg b) % 4294967296 = 0) := by
          refine Lib.hid ?_
          rw [← e1, ← e2, m1, m2]
          have : a = 2147483648 := by rw [e1] at m1; unfold Wd.sg at m1; split at m1 <;> omega
          subst this
          exact ⟨rfl, rfl⟩
        clear e1 e2 m1 m2
        go_enter Tryz.func93, Tryz.ntmps93
        go_wp2
        go_ret3
        refine ⟨ret_iib ?_ ?_ HZ.out.symm, 0, rfl⟩
        · rw [Wd.quo_s a b hz, K1.out.1]
        · rw [Wd.rst_s a b hz, K1.out.2]
      · have hb0 : ¬ (IntKind.i32.wrap b = 0) := by
          rw [IntWalk.i32_left, e2]; unfold Wd.sg; split <;> omega
        have E : Hid (IntKind.i32.wrap a = Wd.sg a ∧ IntKind.i32.wrap b = Wd.sg b) := Lib.hid ⟨by rw [IntWalk.i32_left, e1], by rw [IntWalk.i32_left, e2]⟩
        have hq : Hid (-2147483648 ≤ (Wd.sg a).tdiv (Wd.sg b) ∧ (Wd.sg a).tdiv (Wd.sg b) ≤ 2147483647) := by
          refine Lib.hid ?_
          rw [e1, e2] at hm
          exact Wd.quo_bd _ _ (Wd.sg_bd a ha.1 ha.2) (by unfold Wd.sg; split <;> omega) hm
        have hW : (wrap32 a == -2147483648) = false ∨ ((wrap32 a == -2147483648) = true ∧ (wrap32 b == -1) = false) := by
          by_cases h : wrap32 a = -2147483648
          · right; exact ⟨by simpa using h, by simpa using fun h' => hm ⟨h, h'⟩⟩
          · left; simpa using h
        clear e1 e2 hm
        rcases hW with hW | ⟨hW, hW'⟩
        all_goals
          go_enter Tryz.func93, Tryz.ntmps93
          go_wp2
          go_quiet (fail)
          go_wp2
          go_ret3
          have hq := hq.out
          refine ⟨ret_iib ?_ ?_ HZ.out.symm, _, rfl⟩
          · rw [Wd.quo_s a b hz, E.out.1, E.out.2, IntWalk.i32_in _ hq, IntKind.wrap_u32]
          · rw [Wd.rst_s a b hz, E.out.1, E.out.2, IntKind.wrap_u32]

end Go.Proofs.YtlbdkcnbgdmpaaaGreatDoor

/- CpuIn -/
/- A state of the processor as it lies, a step under way; the walks of v, imm, set. -/
namespace Go.Proofs.YtlbdkcnbgdmpaaaGreatDoor
open Go.RowKit Go.Deep
set_option linter.unusedVariables false

/-- the cells of a state -/
def regs (R : Nat → Int) : List Value := (List.range 32).map fun k => .int .u32 (R k)
def restC (s : Cp.St) : List Value := [.int .u32 s.hi, .int .u32 s.lo, .int .u32 s.pc, .int .u32 s.next, .bool s.slot, .int .u32 s.status, .int .u32 s.cause, .int .u32 s.epc, .int .u32 s.bad, .int .u32 s.compare, .int .i64 s.count]
def stL (s : Cp.St) : List Value := regs s.R ++ restC s
theorem regs_len (R : Nat → Int) : (regs R).length = 32 := by simp [regs]
def StAt (w : World) (sb : Nat) (s : Cp.St) : Prop := w.heap[sb]? = some (.cells (stL s).toArray 25 (0, 0))
theorem StAt.keep {w w' : World} {sb : Nat} {s : Cp.St} {S : Nat → Prop} (h : StAt w sb s) (k : Keeps S w w') (hs : ¬ S sb) : StAt w' sb s := (k.block sb (Array.getElem?_eq_some_iff.1 h).1 hs).trans h
theorem StAt.lt {w : World} {sb : Nat} {s : Cp.St} (h : StAt w sb s) : sb < w.heap.size := (Array.getElem?_eq_some_iff.1 h).1
theorem StAt.frozen {w : World} {sb : Nat} {s : Cp.St} (h : StAt w sb s) (o : Nat) : w.frozen? ⟨sb, o, none⟩ = false := frozen_of_block h o
theorem StAt.reg {w : World} {sb : Nat} {s : Cp.St} (h : StAt w sb s) (k : Nat) (hk : k < 32) : w.cell? ⟨sb, k, none⟩ = some (.int .u32 (s.R k)) := by
  have : (stL s)[k]? = some (.int .u32 (s.R k)) := by
    unfold stL
    rw [List.getElem?_append_left (by rw [regs_len]; exact hk)]
    simp [regs, hk]
  unfold World.cell?
  rw [h]
  simpa using this
theorem StAt.rest {w : World} {sb : Nat} {s : Cp.St} (h : StAt w sb s) (i : Nat) (v : Value) (hi : (restC s)[i]? = some v) : w.cell? ⟨sb, 32 + i, none⟩ = some v := by
  have : (stL s)[32 + i]? = some v := by
    unfold stL
    rw [List.getElem?_append_right (by rw [regs_len]; omega), regs_len, show 32 + i - 32 = i by omega]
    exact hi
  unfold World.cell?
  rw [h]
  simpa using this
theorem StAt.cells {w : World} {sb : Nat} {s : Cp.St} (h : StAt w sb s) :
    w.cell? ⟨sb, 32, none⟩ = some (.int .u32 s.hi) ∧ w.cell? ⟨sb, 33, none⟩ = some (.int .u32 s.lo) ∧ w.cell? ⟨sb, 34, none⟩ = some (.int .u32 s.pc) ∧ w.cell? ⟨sb, 35, none⟩ = some (.int .u32 s.next) ∧
    w.cell? ⟨sb, 36, none⟩ = some (.bool s.slot) ∧ w.cell? ⟨sb, 37, none⟩ = some (.int .u32 s.status) ∧ w.cell? ⟨sb, 38, none⟩ = some (.int .u32 s.cause) ∧ w.cell? ⟨sb, 39, none⟩ = some (.int .u32 s.epc) ∧
    w.cell? ⟨sb, 40, none⟩ = some (.int .u32 s.bad) ∧ w.cell? ⟨sb, 41, none⟩ = some (.int .u32 s.compare) ∧ w.cell? ⟨sb, 42, none⟩ = some (.int .i64 s.count) :=
  ⟨h.rest 0 _ rfl, h.rest 1 _ rfl, h.rest 2 _ rfl, h.rest 3 _ rfl, h.rest 4 _ rfl, h.rest 5 _ rfl, h.rest 6 _ rfl, h.rest 7 _ rfl, h.rest 8 _ rfl, h.rest 9 _ rfl, h.rest 10 _ rfl⟩
/-- a cell of the rest is set -/
theorem StAt.set {w : World} {sb : Nat} {s s' : Cp.St} (h : StAt w sb s) (i : Nat) (v : Value) (hR : s'.R = s.R) (hi : (restC s).set i v = restC s') : StAt (w.setCell ⟨sb, 32 + i, none⟩ v) sb s' := by
  have := set_block h (32 + i) v
  unfold StAt
  rw [this]
  congr 2
  rw [List.setIfInBounds_toArray]
  congr 1
  unfold stL
  rw [List.set_append_right _ _ (by rw [regs_len]; omega), regs_len, show 32 + i - 32 = i by omega, hi, hR]
theorem StAt.setReg {w : World} {sb : Nat} {s : Cp.St} (h : StAt w sb s) (k : Nat) (hk : k < 32) (v : Int) : StAt (w.setCell ⟨sb, k, none⟩ (.int .u32 v)) sb { s with R := fun j => if j = k then v else s.R j } := by
  have := set_block h k (.int .u32 v)
  unfold StAt
  rw [this]
  congr 2
  rw [List.setIfInBounds_toArray]
  congr 1
  unfold stL
  rw [List.set_append_left _ _ (by rw [regs_len]; exact hk)]
  congr 1
  apply List.ext_getElem?
  intro j
  unfold regs
  rw [List.getElem?_set]
  simp only [List.length_map, List.length_range, List.getElem?_map]
  by_cases e : k = j
  · subst e
    simp [hk]
  · rw [if_neg e]
    by_cases hj : j < 32
    · simp [hj, show ¬ j = k by omega]
    · simp [hj]

/-- a step under way: its state, its bus, its instruction, what comes behind the next one, is it a branch -/
def XAt (w : World) (x sb b : Nat) (i : Cd.Ins) (nx : Int) (br : Bool) : Prop :=
  w.heap[x]? = some (.cells #[.pointer (some ⟨sb, 0, none⟩), .pointer (some ⟨b, 0, none⟩), .int .i64 i.op, .int .i64 i.S, .int .i64 i.T, .int .i64 i.D, .int .u32 i.imm, .int .u32 nx, .bool br] 83 (0, 0))
theorem XAt.keep {w w' : World} {x sb b : Nat} {i : Cd.Ins} {nx : Int} {br : Bool} {S : Nat → Prop} (h : XAt w x sb b i nx br) (k : Keeps S w w') (hs : ¬ S x) : XAt w' x sb b i nx br := (k.block x (Array.getElem?_eq_some_iff.1 h).1 hs).trans h
theorem XAt.lt {w : World} {x sb b : Nat} {i : Cd.Ins} {nx : Int} {br : Bool} (h : XAt w x sb b i nx br) : x < w.heap.size := (Array.getElem?_eq_some_iff.1 h).1
theorem XAt.cells {w : World} {x sb b : Nat} {i : Cd.Ins} {nx : Int} {br : Bool} (h : XAt w x sb b i nx br) :
    w.cell? ⟨x, 0, none⟩ = some (.pointer (some ⟨sb, 0, none⟩)) ∧ w.cell? ⟨x, 1, none⟩ = some (.pointer (some ⟨b, 0, none⟩)) ∧ w.cell? ⟨x, 2, none⟩ = some (.int .i64 i.op) ∧ w.cell? ⟨x, 3, none⟩ = some (.int .i64 i.S) ∧ w.cell? ⟨x, 4, none⟩ = some (.int .i64 i.T) ∧
    w.cell? ⟨x, 5, none⟩ = some (.int .i64 i.D) ∧ w.cell? ⟨x, 6, none⟩ = some (.int .u32 i.imm) ∧ w.cell? ⟨x, 7, none⟩ = some (.int .u32 nx) ∧ w.cell? ⟨x, 8, none⟩ = some (.bool br) := by
  unfold XAt at h
  refine ⟨?_, ?_, ?_, ?_, ?_, ?_, ?_, ?_, ?_⟩ <;> simp [World.cell?, h]
theorem XAt.frozen {w : World} {x sb b : Nat} {i : Cd.Ins} {nx : Int} {br : Bool} (h : XAt w x sb b i nx br) (o : Nat) : w.frozen? ⟨x, o, none⟩ = false := frozen_of_block h o

set_option maxHeartbeats 1000000 in
theorem v_any (x sb : Nat) (s : Cp.St) (n : Int) (w : World) (hx : w.cell? ⟨x, 0, none⟩ = some (.pointer (some ⟨sb, 0, none⟩))) (hS : StAt w sb s) (hn : 0 ≤ n ∧ n < 32) :
    Calls Tryz.prog 70 #[.pointer (some ⟨x, 0, none⟩), .int .i64 n] w fun e w' => e = .returned (.int .u32 (s.R n.toNat)) ∧ w = w' := by
  obtain ⟨k, rfl⟩ := Int.eq_ofNat_of_zero_le hn.1
  have hk : k < 32 := by omega
  have hc := hS.reg k hk
  have hk2 : (k : Int) < 32 := by omega
  rw [Int.toNat_natCast]
  generalize s.R k = v at *
  clear hS hn
  go_enter Tryz.func70, Tryz.ntmps70
  go_wp2_with fail
  go_ret
  exact ⟨rfl, rfl⟩
set_option maxHeartbeats 1000000 in
theorem imm_any (x : Nat) (im : Int) (w : World) (hx : w.cell? ⟨x, 6, none⟩ = some (.int .u32 im)) (hi : 0 ≤ im ∧ im < 4294967296) :
    Calls Tryz.prog 71 #[.pointer (some ⟨x, 0, none⟩)] w fun e w' => e = .returned (.int .u32 (Wd.wide im 16 true)) ∧ w = w' := by
  go_enter Tryz.func71, Tryz.ntmps71
  go_wp2_with fail
  refine (wide_any im 16 true _ hi).mono ?_
  rintro e w' ⟨rfl, rfl⟩
  go_wp2_with fail
  go_ret
  exact ⟨rfl, rfl⟩
set_option maxHeartbeats 1000000 in
theorem set_any (x sb : Nat) (s : Cp.St) (n v : Int) (w : World) (hx : w.cell? ⟨x, 0, none⟩ = some (.pointer (some ⟨sb, 0, none⟩))) (hS : StAt w sb s) (hn : 0 ≤ n ∧ n < 32) :
    Calls Tryz.prog 72 #[.pointer (some ⟨x, 0, none⟩), .int .i64 n, .int .u32 v] w fun e w' => e = .returned (.tuple #[]) ∧ StAt w' sb (Cp.setR s n v) ∧ Keeps (· = sb) w w' := by
  by_cases h0 : n = 0
  · subst h0
    go_enter Tryz.func72, Tryz.ntmps72
    go_wp2_with fail
    refine bodyPost_end (results_none rfl _ _ _) rfl ⟨rfl, ?_, Keeps.refl _ _⟩
    rw [Cp.setR, if_pos rfl]
    exact hS
  · have t : (n != 0) = true := by simpa using h0
    obtain ⟨k, rfl⟩ := Int.eq_ofNat_of_zero_le hn.1
    have hk : k < 32 := by omega
    have hk2 : (k : Int) < 32 := by omega
    have hc := hS.reg k hk
    have hf := hS.frozen k
    have HS := Lib.hid (hS.setReg k hk v)
    have HE : Hid (Cp.setR s k v = { s with R := fun j => if j = k then v else s.R j }) := Lib.hid (by rw [Cp.setR, if_neg h0]; rfl)
    generalize s.R k = v0 at *
    clear hS hn h0
    go_enter Tryz.func72, Tryz.ntmps72
    go_wp2_with fail
    refine bodyPost_end (results_none rfl _ _ _) rfl ⟨rfl, ?_, Keeps.one _ _ _ _⟩
    rw [HE.out]
    exact HS.out
end Go.Proofs.YtlbdkcnbgdmpaaaGreatDoor

/- Rcpu0 -/
/- The reference's processor: the walks of plus, bitOf, withBit, immOf, SizeOf, Bit. -/
namespace Go.Proofs.YtlbdkcnbgdmpaaaGreatDoor
open Go.RowKit Go.Deep
set_option linter.unusedVariables false

theorem ret_bool' {a b : Bool} (h : a = b) : Ending.returned (.bool a) = .returned (.bool b) := by rw [h]
theorem plus_any (a b : Int) (w : World) (ha : 0 ≤ a ∧ a < 4294967296) (hb : 0 ≤ b ∧ b < 4294967296) :
    Calls Tryz.prog 43 #[.int .u32 a, .int .u32 b] w fun e w' => e = .returned (.int .u32 (Cp.u (a + b))) ∧ w = w' := by
  go_enter Tryz.func43, Tryz.ntmps43
  go_wp2_with fail
  refine (word_any _ _ (by omega)).mono ?_
  rintro e w' ⟨rfl, rfl⟩
  go_wp2_with fail
  go_ret
  exact ⟨rfl, rfl⟩
theorem bitOf_any (v : Int) (n : Nat) (w : World) (hv : 0 ≤ v ∧ v < 4294967296) (hn : n < 32) :
    Calls Tryz.prog 38 #[.int .u32 v, .int .i64 n] w fun e w' => e = .returned (.bool (decide (v / 2 ^ n % 2 = 1))) ∧ w = w' := by
  go_enter Tryz.func38, Tryz.ntmps38
  go_wp2_with fail
  refine (part_any v n 1 _ hv (by omega) (by omega)).mono ?_
  rintro e w' ⟨rfl, rfl⟩
  go_wp2_with fail
  go_ret
  refine ⟨ret_bool' ?_, rfl⟩
  rw [Bool.eq_iff_iff, beq_iff_eq, decide_eq_true_iff]
/-- a word with a bit as it should be -/
def wb (v : Int) (n : Nat) (on : Bool) : Int := (v - v / 2 ^ n % 2 * 2 ^ n + if on then 2 ^ n else 0) % 4294967296
theorem withBit_any (v : Int) (n : Nat) (on : Bool) (w : World) (hv : 0 ≤ v ∧ v < 4294967296) (hn : n < 32) :
    Calls Tryz.prog 44 #[.int .u32 v, .int .i64 n, .bool on] w fun e w' => e = .returned (.int .u32 (wb v n on)) ∧ w = w' := by
  have hp : (0 : Int) < 2 ^ n ∧ (2 : Int) ^ n ≤ 2147483648 := by
    have h : ∀ k : Fin 32, (0 : Int) < 2 ^ k.val ∧ (2 : Int) ^ k.val ≤ 2147483648 := by decide
    exact h ⟨n, hn⟩
  have HP := Lib.hid (fun w => part_any v n 1 w hv (by omega) (by omega))
  have HO := Lib.hid (fun w => shiftOf_any 60 1 n w (by omega) (by omega))
  rw [show Wd.shift 60 1 (n : Int) = 2 ^ n from (shift_up (n : Int) 1 (by omega)).2] at HO
  rw [show v / 2 ^ (n : Int).toNat % 2 ^ (1 : Int).toNat = v / 2 ^ n % 2 from rfl] at HP
  have HW : Hid (wb v n on = (v - v / 2 ^ n % 2 * 2 ^ n + if on then 2 ^ n else 0) % 4294967296) := Lib.hid rfl
  have hb : 0 ≤ v / 2 ^ n % 2 ∧ v / 2 ^ n % 2 ≤ 1 := by omega
  generalize v / 2 ^ n % 2 = x at *
  generalize (2 : Int) ^ n = p at *
  have hx : x = 0 ∨ x = 1 := by omega
  have hxp : 0 ≤ x * p ∧ x * p ≤ 2147483648 := by rcases hx with rfl | rfl <;> omega
  clear hx
  have tn : IntKind.u32.wrap (n : Int) = n := by rw [IntKind.wrap_u32]; omega
  have hy : ∃ y, x * p = y := ⟨_, rfl⟩
  obtain ⟨y, hy⟩ := hy
  rw [hy] at hxp HW
  have tx : wrap64 (x * p) = y := by rw [hy]; unfold wrap64; omega
  clear hy
  cases on
  · go_enter Tryz.func44, Tryz.ntmps44
    go_wp2_with fail
    refine (HP.out _).mono ?_
    rintro e w' ⟨rfl, rfl⟩
    go_wp2_with fail
    refine (HO.out _).mono ?_
    rintro e w' ⟨rfl, rfl⟩
    go_wp2_with fail
    refine (word_any _ _ (by omega)).mono ?_
    rintro e w' ⟨rfl, rfl⟩
    go_wp2_with fail
    go_ret
    exact ⟨by rw [HW.out]; simp, rfl⟩
  · go_enter Tryz.func44, Tryz.ntmps44
    go_wp2_with fail
    refine (HP.out _).mono ?_
    rintro e w' ⟨rfl, rfl⟩
    go_wp2_with fail
    refine (HO.out _).mono ?_
    rintro e w' ⟨rfl, rfl⟩
    go_wp2_with fail
    refine (HO.out _).mono ?_
    rintro e w' ⟨rfl, rfl⟩
    go_wp2_with fail
    refine (word_any _ _ (by omega)).mono ?_
    rintro e w' ⟨rfl, rfl⟩
    go_wp2_with fail
    go_ret
    exact ⟨by rw [HW.out]; simp, rfl⟩
theorem immOf_any (i : Cd.Ins) (w : World) (hi : 0 ≤ i.imm ∧ i.imm < 4294967296) :
    Calls Tryz.prog 94 #[.agg (insC i)] w fun e w' => e = .returned (.int .u32 (Cp.immS i)) ∧ Keeps (fun _ => False) w w' := by
  have HI : Hid (Cp.immS i = Wd.wide i.imm 16 true) := Lib.hid rfl
  unfold insC
  generalize Cp.immS i = r at *
  obtain ⟨op, S, T, D, imm⟩ := i
  simp only at hi HI ⊢
  have HK := Lib.hid ((Keeps.refl (fun _ => False) w).alloc (.cells #[.int .i64 op, .int .i64 S, .int .i64 T, .int .i64 D, .int .u32 imm] 80))
  go_enter Tryz.func94, Tryz.ntmps94
  go_wp2_with fail
  refine (wideOf_any imm 16 true _ hi).mono ?_
  rintro e w' ⟨rfl, rfl⟩
  go_wp2_with fail
  go_ret
  exact ⟨by rw [HI.out]; rfl, HK.out⟩
end Go.Proofs.YtlbdkcnbgdmpaaaGreatDoor

/- CpuBits -/
/- Bits of words, said of integers. No program in sight. -/
namespace Go.Proofs.YtlbdkcnbgdmpaaaGreatDoor
open Go.RowKit
set_option linter.unusedVariables false
namespace Cp
theorem or_split (k x y c d : Nat) (hy : y < 2 ^ k) (hd : d < 2 ^ k) : (x * 2 ^ k + y) ||| (c * 2 ^ k + d) = (x ||| c) * 2 ^ k + (y ||| d) := by
  apply Nat.eq_of_testBit_eq
  intro i
  have hyd : y ||| d < 2 ^ k := Nat.or_lt_two_pow hy hd
  rw [Nat.testBit_or, Nat.mul_comm x, Nat.mul_comm c, Nat.mul_comm (x ||| c), Nat.testBit_two_pow_mul_add _ hy, Nat.testBit_two_pow_mul_add _ hd, Nat.testBit_two_pow_mul_add _ hyd]
  split
  · rw [Nat.testBit_or]
  · rw [Nat.testBit_or]
theorem and2 (v : Int) (h : 0 ≤ v ∧ v < 4294967296) : bits .and .u32 v 2 = 2 * (v / 2 % 2) := by
  rw [u32_and v 2 h.1 h.2 (by decide) (by decide)]
  obtain ⟨n, rfl⟩ := Int.eq_ofNat_of_zero_le h.1
  have e := Cd.and_split 2 (n / 4) (n % 4) 0 2 (by omega) (by decide)
  have e2 : n / 4 * 2 ^ 2 + n % 4 = n := by omega
  rw [e2] at e
  show ((n &&& 2 : Nat) : Int) = _
  have e3 : (0 * 2 ^ 2 + 2 : Nat) = 2 := rfl
  rw [e3, Nat.and_zero] at e
  rw [e]
  have : n % 4 = 0 ∨ n % 4 = 1 ∨ n % 4 = 2 ∨ n % 4 = 3 := by omega
  rcases this with h4 | h4 | h4 | h4 <;> rw [h4]
  · show ((0 * 2 ^ 2 + 0 : Nat) : Int) = _; omega
  · show ((0 * 2 ^ 2 + 0 : Nat) : Int) = _; omega
  · show ((0 * 2 ^ 2 + 2 : Nat) : Int) = _; omega
  · show ((0 * 2 ^ 2 + 2 : Nat) : Int) = _; omega
theorem and3 (v : Int) (h : 0 ≤ v ∧ v < 4294967296) : bits .and .u32 v 3 = v % 4 := by
  rw [u32_and v 3 h.1 h.2 (by decide) (by decide)]
  obtain ⟨n, rfl⟩ := Int.eq_ofNat_of_zero_le h.1
  show ((n &&& (2 ^ 2 - 1) : Nat) : Int) = _
  rw [Nat.and_two_pow_sub_one_eq_mod]
  omega
theorem or2 (v : Int) (h : 0 ≤ v ∧ v < 4294967296) : bits .or .u32 v 2 = if v / 2 % 2 = 0 then v + 2 else v := by
  rw [u32_or v 2 h.1 h.2 (by decide) (by decide)]
  obtain ⟨n, rfl⟩ := Int.eq_ofNat_of_zero_le h.1
  have e := or_split 2 (n / 4) (n % 4) 0 2 (by omega) (by decide)
  have e2 : n / 4 * 2 ^ 2 + n % 4 = n := by omega
  rw [e2] at e
  show ((n ||| 2 : Nat) : Int) = _
  have e3 : (0 * 2 ^ 2 + 2 : Nat) = 2 := rfl
  rw [e3, Nat.or_zero] at e
  rw [e]
  have : n % 4 = 0 ∨ n % 4 = 1 ∨ n % 4 = 2 ∨ n % 4 = 3 := by omega
  rcases this with h4 | h4 | h4 | h4 <;> rw [h4]
  · rw [if_pos (by omega)]; show ((n / 4 * 4 + 2 : Nat) : Int) = _; omega
  · rw [if_pos (by omega)]; show ((n / 4 * 4 + 3 : Nat) : Int) = _; omega
  · rw [if_neg (by omega)]; show ((n / 4 * 4 + 2 : Nat) : Int) = _; omega
  · rw [if_neg (by omega)]; show ((n / 4 * 4 + 3 : Nat) : Int) = _; omega
theorem not2 (v : Int) (h : 0 ≤ v ∧ v < 4294967296) (h2 : v / 2 % 2 ≠ 0) : bits .andNot .u32 v 2 = v - 2 := by
  rw [u32_andNot v 2 h.1 h.2 (by decide) (by decide)]
  obtain ⟨n, rfl⟩ := Int.eq_ofNat_of_zero_le h.1
  have e := Cd.and_split 2 (n / 4) (n % 4) 1073741823 1 (by omega) (by decide)
  have e2 : n / 4 * 2 ^ 2 + n % 4 = n := by omega
  rw [e2] at e
  have e3 : (1073741823 * 2 ^ 2 + 1 : Nat) = 4294967295 - 2 := rfl
  have e4 : n / 4 &&& 1073741823 = n / 4 := Cd.and_ones 30 (n / 4) (by omega)
  rw [e3, e4] at e
  show ((n &&& (4294967295 - 2) : Nat) : Int) = _
  rw [e]
  have : n % 4 = 2 ∨ n % 4 = 3 := by omega
  rcases this with h4 | h4 <;> rw [h4]
  · show ((n / 4 * 4 + 0 : Nat) : Int) = _; omega
  · show ((n / 4 * 4 + 1 : Nat) : Int) = _; omega
theorem causeB (c e : Int) (h : 0 ≤ c ∧ c < 4294967296) (he : 0 ≤ e ∧ e < 32) : bits .or .u32 (bits .andNot .u32 c 124) (4 * e) = c - c / 4 % 32 * 4 + 4 * e := by
  obtain ⟨n, rfl⟩ := Int.eq_ofNat_of_zero_le h.1
  obtain ⟨k, rfl⟩ := Int.eq_ofNat_of_zero_le he.1
  have e1 : bits .andNot .u32 (n : Int) 124 = ((n / 128 * 128 + n % 4 : Nat) : Int) := by
    rw [u32_andNot _ _ h.1 h.2 (by decide) (by decide)]
    have a1 := Cd.and_split 2 (n / 128 * 32 + n / 4 % 32) (n % 4) (33554431 * 32 + 0) 3 (by omega) (by decide)
    have a2 := Cd.and_split 5 (n / 128) (n / 4 % 32) 33554431 0 (by omega) (by decide)
    have a3 : n / 128 &&& 33554431 = n / 128 := Cd.and_ones 25 (n / 128) (by omega)
    have a4 : n % 4 &&& 3 = n % 4 := Cd.and_ones 2 (n % 4) (by omega)
    have a5 : (n / 128 * 32 + n / 4 % 32) * 2 ^ 2 + n % 4 = n := by omega
    have a6 : ((33554431 * 32 + 0) * 2 ^ 2 + 3 : Nat) = 4294967295 - 124 := rfl
    rw [show (2 : Nat) ^ 5 = 32 from rfl, Nat.and_zero, a3] at a2
    rw [a5, a6, a2, a4] at a1
    show ((n &&& (4294967295 - 124) : Nat) : Int) = _
    rw [a1]
    omega
  rw [e1, u32_or _ _ (by omega) (by omega) (by omega) (by omega)]
  have b1 := or_split 2 (n / 128 * 32) (n % 4) k 0 (by omega) (by decide)
  have b2 := or_split 5 (n / 128) 0 0 k (by decide) (by omega)
  rw [show (2 : Nat) ^ 5 = 32 from rfl, Nat.or_zero, Nat.zero_or, Nat.zero_mul, Nat.zero_add, Nat.add_zero] at b2
  rw [b2, Nat.or_zero] at b1
  rw [show (((n / 128 * 128 + n % 4 : Nat) : Int)).toNat = n / 128 * 32 * 2 ^ 2 + n % 4 by omega, show (4 * (k : Int)).toNat = k * 2 ^ 2 + 0 by omega, b1]
  omega
theorem cause31 (e : Int) (he : 0 ≤ e ∧ e < 32) : bits .or .u32 (4 * e) 2147483648 = 4 * e + 2147483648 := by
  obtain ⟨k, rfl⟩ := Int.eq_ofNat_of_zero_le he.1
  rw [u32_or _ _ (by omega) (by omega) (by decide) (by decide)]
  have b1 := or_split 31 0 (4 * k) 1 0 (by omega) (by decide)
  rw [Nat.or_zero, Nat.zero_or, Nat.zero_mul, Nat.zero_add] at b1
  rw [show (4 * (k : Int)).toNat = 4 * k by omega]
  show ((4 * k ||| (1 * 2 ^ 31 + 0) : Nat) : Int) = _
  rw [b1]
  omega
theorem jumpB (p im : Int) (h : 0 ≤ p ∧ p < 4294967296) (hi : 0 ≤ im ∧ im < 67108864) : bits .or .u32 (bits .and .u32 p 4026531840) (im * 4) = p / 268435456 * 268435456 + 4 * im := by
  obtain ⟨n, rfl⟩ := Int.eq_ofNat_of_zero_le h.1
  obtain ⟨k, rfl⟩ := Int.eq_ofNat_of_zero_le hi.1
  have e1 : bits .and .u32 (n : Int) 4026531840 = ((n / 268435456 * 268435456 : Nat) : Int) := by
    rw [u32_and _ _ h.1 h.2 (by decide) (by decide)]
    have a1 := Cd.and_split 28 (n / 268435456) (n % 268435456) 15 0 (by omega) (by decide)
    have a3 : n / 268435456 &&& 15 = n / 268435456 := Cd.and_ones 4 _ (by omega)
    have a5 : n / 268435456 * 2 ^ 28 + n % 268435456 = n := by omega
    rw [a5, a3, Nat.and_zero] at a1
    show ((n &&& (15 * 2 ^ 28 + 0) : Nat) : Int) = _
    rw [a1]
    omega
  rw [e1, u32_or _ _ (by omega) (by omega) (by omega) (by omega)]
  have b1 := or_split 28 (n / 268435456) 0 0 (4 * k) (by decide) (by omega)
  rw [Nat.or_zero, Nat.zero_or, Nat.zero_mul, Nat.zero_add, Nat.add_zero] at b1
  rw [show (((n / 268435456 * 268435456 : Nat) : Int)).toNat = n / 268435456 * 2 ^ 28 by omega, show ((k : Int) * 4).toNat = 4 * k by omega, b1]
  omega
end Cp
end Go.Proofs.YtlbdkcnbgdmpaaaGreatDoor
