import Derived.Test.YtlmnmncdoiealaaGreatDoorKaz12
import Derived.Test.YtlmnmncdoiealaaGreatDoorKaz17
import Derived.Test.YtlmnmncdoiealaaGreatDoorIrOps
import Derived.Test.YtlmnmncdoiealaaGreatDoorMem
import Derived.BigQuiet
import Derived.Deep.QuietTactic

/- RkPut -/
/- The walk of the reference's Put. -/
namespace Go.Proofs.YtlmnmncdoiealaaGreatDoor
open Go.RowKit Go.Deep
set_option linter.unusedVariables false
set_option linter.unusedSimpArgs false

theorem npK_app (p : K4 → Bool) (l : List K4) (a : K4) : npK p (l ++ [a]) = if p a then npK p l else npK p l ++ [a] := by
  unfold npK
  rw [List.filter_append]
  cases h : p a <;> simp [h]
set_option maxHeartbeats 8000000 in
set_option maxRecDepth 100000 in
theorem rkPut_any (mb : Nat) (mx : Int) (L : List K4) (x : K4) (w : World) (R : RefKeep w mb mx L) (hl : L.length ≤ 100000) (hmx : 1 ≤ mx) :
    Calls Tryz.prog 12 #[.pointer (some ⟨mb, 0, none⟩), .agg (kC x)] w fun e w' => e = .returned (.tuple #[]) ∧ RefKeep w' mb mx (putL mx L x) ∧ Keeps (· = mb) w w' := by
  obtain ⟨A, n, cap, hb, hr⟩ := R.box
  have HMB := Lib.hid R.lt
  have HB := Lib.hid hb
  have HR := Lib.hid hr
  have HLE := Lib.hid hr.len
  have hnc := hr.le
  have hnb : n ≤ 100000 := by have := hr.len; omega
  have HNB := Lib.hid hnb
  have HXB := Lib.hid (blk_alloc_new w (.cells #[.int .u32 x.pc, .int .i64 x.many, .slice x.A x.n x.c, .slice x.P x.pn x.pcap] 51))
  have HXK := Lib.hid ((Keeps.refl (fun _ => False) w).alloc (.cells #[.int .u32 x.pc, .int .i64 x.many, .slice x.A x.n x.c, .slice x.P x.pn x.pcap] 51))
  unfold kC
  clear hb hr R hl
  go_enter Tryz.func12, Tryz.ntmps12
  go_upto_region 1 with fail
  generalize w.alloc _ = w1 at *
  obtain ⟨xb, hxb⟩ : ∃ b, w.heap.size = b := ⟨_, rfl⟩
  have HXE := Lib.hid hxb
  rw [hxb] at HXB HMB ⊢
  clear hxb
  obtain ⟨B1, hB1⟩ : ∃ b, w1.heap.size = b := ⟨_, rfl⟩
  have HB1 := Lib.hid hB1
  have HXL := Lib.hid (show xb < B1 from by rw [← hB1]; exact (Array.getElem?_eq_some_iff.1 HXB.out).1)
  clear hB1
  go_wp2_with fail
  go_loopw [4, 5] (fun s4 s5 wr => ∃ i : Nat, i ≤ n ∧ s5 = .int .i64 i ∧ ROwn wr B1 (npK (fun q => q.pc == x.pc) (L.take i)) s4 ∧ Keeps (fun _ => False) w1 wr) (fun _ s5 _ => n - (intOf s5).toNat)
  case atStart => exact ⟨0, by omega, rfl, ROwn.nil _ _, Keeps.refl _ _⟩
  case round =>
    obtain ⟨i, hi, rfl, hO, hK⟩ := hrel
    have HO := Lib.hid hO
    have HK := Lib.hid hK
    have HKW := Lib.hid (HXK.out.trans hK (fun _ _ h => h))
    clear hO hK
    have c0 : wr.cell? ⟨mb, 1, none⟩ = some (.slice A n cap) := HKW.out.cell' (cell_atK HB.out 1) (fun h => h)
    have x0 : wr.cell? ⟨xb, 0, none⟩ = some (.int .u32 x.pc) := HK.out.cell' (cell_atK HXB.out 0) (fun h => h)
    by_cases hlt : i < n
    · have hil : i < L.length := by rw [HLE.out]; exact hlt
      obtain ⟨b, o, rfl, hcell⟩ := (HR.out.quiet HKW.out).get hlt
      have hi63 : (i : Int) < n := by omega
      have HTK := Lib.hid (take_getD L i hil k40)
      obtain ⟨k, hk⟩ : ∃ k, L.getD i k40 = k := ⟨_, rfl⟩
      rw [hk] at hcell HTK
      clear hk hil
      have e0 : wr.cell? ⟨b, o + i * 4, none⟩ = some (.int .u32 k.pc) := hcell 0 _ (by omega) rfl
      have e1 : wr.cell? ⟨b, o + i * 4 + 1, none⟩ = some (.int .i64 k.many) := hcell 1 _ (by omega) rfl
      have e2 : wr.cell? ⟨b, o + i * 4 + 2, none⟩ = some (.slice k.A k.n k.c) := hcell 2 _ (by omega) rfl
      have e3 : wr.cell? ⟨b, o + i * 4 + 3, none⟩ = some (.slice k.P k.pn k.pcap) := hcell 3 _ (by omega) rfl
      have HNP := Lib.hid (show npK (fun q => q.pc == x.pc) (L.take (i + 1)) = if (k.pc == x.pc) then npK (fun q => q.pc == x.pc) (L.take i) else npK (fun q => q.pc == x.pc) (L.take i) ++ [k] by rw [HTK.out]; exact npK_app _ _ _)
      have HLL := Lib.hid (show (npK (fun q => q.pc == x.pc) (L.take i)).length ≤ 1000000 from Nat.le_trans (List.length_filter_le _ _) (by rw [List.length_take]; have := HNB.out; omega))
      have HQN := Lib.hid (fun q => (Keeps.refl (fun _ => False) wr).drewN q)
      clear hcell
      cases hq : (k.pc == x.pc)
      · have HQ := Lib.hid (show npK (fun q => q.pc == x.pc) (L.take (i + 1)) = npK (fun q => q.pc == x.pc) (L.take i) ++ [k] by rw [HNP.out, hq]; rfl)
        have hqn : (k.pc != x.pc) = true := by rw [bne, hq]; rfl
        go_wp2_with fail
        go_quiet (fail)
        go_upto_region 6 with fail
        have hqk := HQN.out nq
        have d0 := hqk.cell' c0 (fun h => h)
        have f0 := hqk.cell' e0 (fun h => h)
        have f1 := hqk.cell' e1 (fun h => h)
        have f2 := hqk.cell' e2 (fun h => h)
        have f3 := hqk.cell' e3 (fun h => h)
        have HOQ := Lib.hid (HO.out.quiet hqk)
        have HKQ := Lib.hid (HK.out.trans hqk (fun _ _ h => h))
        clear hqk c0 x0 e0 e1 e2 e3 hqn hq
        generalize wr.drewN nq = wq at *
        obtain ⟨A5, c5, hv5, _⟩ := id HOQ.out
        obtain ⟨un, hun⟩ : ∃ z, (npK (fun q => q.pc == x.pc) (L.take i)).length = z := ⟨_, rfl⟩
        rw [hun] at hv5
        subst hv5
        clear hun
        have HKA := Lib.hid ((Keeps.refl (fun _ => False) wq).alloc (.cells #[.int .u32 k.pc, .int .i64 k.many, .slice k.A k.n k.c, .slice k.P k.pn k.pcap] 51))
        have HCN := Lib.hid (fun j u hj => cells_new wq #[.int .u32 k.pc, .int .i64 k.many, .slice k.A k.n k.c, .slice k.P k.pn k.pcap].toList 51 j u hj)
        have HOA := Lib.hid (HOQ.out.quiet HKA.out)
        have HBS := Lib.hid (show B1 ≤ (wq.alloc (.cells #[.int .u32 k.pc, .int .i64 k.many, .slice k.A k.n k.c, .slice k.P k.pn k.pcap] 51)).heap.size by
          have h1 := HKQ.out.size
          have h2 := HKA.out.size
          have h4 := HB1.out
          omega)
        have HLOW := Lib.hid HOQ.out.low
        go_wp2_with (at_builtin; go_loud (refine wpList_append_r rfl _ _ rfl B1 (npK (fun q => q.pc == x.pc) (L.take i)) (.slice A5 un c5) rfl HOA.out wq.heap.size k rfl HCN.out HLL.out HBS.out ?c0))
        case c0 =>
          intro v' w4 hown hk4
          have HO4 := Lib.hid (show ROwn w4 B1 (npK (fun q => q.pc == x.pc) (L.take (i + 1))) v' by rw [HQ.out]; exact hown)
          have HK4 := Lib.hid (show Keeps (fun _ => False) w1 w4 from (HKQ.out.trans HKA.out (fun _ _ h => h)).trans hk4 (fun b hb e => by
            have h1 := (HLOW.out b e).1
            have h2 := HB1.out
            omega))
          clear hown hk4 d0 f0 f1 f2 f3
          go_wp2_with fail
          go_roundw
          case rel => exact ⟨i + 1, by omega, by go_num, HO4.out, HK4.out⟩
          case measure => simp [intOf]; omega
      · have HQ := Lib.hid (show npK (fun q => q.pc == x.pc) (L.take (i + 1)) = npK (fun q => q.pc == x.pc) (L.take i) by rw [HNP.out, hq]; rfl)
        have hqn : (k.pc != x.pc) = false := by rw [bne, hq]; rfl
        go_wp2_with fail
        go_quiet (fail)
        go_wp2_with fail
        go_roundw
        case rel => exact ⟨i + 1, by omega, by go_num, by rw [HQ.out]; exact HO.out.quiet (HQN.out _), HK.out.trans (HQN.out _) (fun _ _ h => h)⟩
        case measure => simp [intOf]; omega
    · obtain rfl : i = n := by omega
      have x1 : wr.cell? ⟨xb, 1, none⟩ = some (.int .i64 x.many) := HK.out.cell' (cell_atK HXB.out 1) (fun h => h)
      have x2 : wr.cell? ⟨xb, 2, none⟩ = some (.slice x.A x.n x.c) := HK.out.cell' (cell_atK HXB.out 2) (fun h => h)
      have x3 : wr.cell? ⟨xb, 3, none⟩ = some (.slice x.P x.pn x.pcap) := HK.out.cell' (cell_atK HXB.out 3) (fun h => h)
      have HOF := Lib.hid (show ROwn wr B1 (npK (fun q => q.pc == x.pc) L) _ from by
        have := HO.out
        rwa [List.take_of_length_le (by rw [HLE.out]; exact Nat.le_refl _)] at this)
      obtain ⟨A5, c5, hv5, _⟩ := id HOF.out
      obtain ⟨un, hun⟩ : ∃ z, (npK (fun q => q.pc == x.pc) L).length = z := ⟨_, rfl⟩
      have HUN := Lib.hid hun
      rw [hun] at hv5
      subst hv5
      have hunb : un ≤ 100000 := by rw [← hun]; exact Nat.le_trans (List.length_filter_le _ _) (by rw [HLE.out]; exact HNB.out)
      have HUB := Lib.hid hunb
      clear hun
      have HKA := Lib.hid ((Keeps.refl (fun _ => False) wr).alloc (.cells #[.int .u32 x.pc, .int .i64 x.many, .slice x.A x.n x.c, .slice x.P x.pn x.pcap] 51))
      have HCN := Lib.hid (fun j u hj => cells_new wr #[.int .u32 x.pc, .int .i64 x.many, .slice x.A x.n x.c, .slice x.P x.pn x.pcap].toList 51 j u hj)
      have HOA := Lib.hid (HOF.out.quiet HKA.out)
      have HBS := Lib.hid (show B1 ≤ (wr.alloc (.cells #[.int .u32 x.pc, .int .i64 x.many, .slice x.A x.n x.c, .slice x.P x.pn x.pcap] 51)).heap.size by
        have h1 := HK.out.size
        have h2 := HKA.out.size
        have h4 := HB1.out
        omega)
      have HLOW := Lib.hid HOF.out.low
      have HLL := Lib.hid (show (npK (fun q => q.pc == x.pc) L).length ≤ 1000000 by rw [HUN.out]; have := HUB.out; omega)
      clear HO
      go_wp2_with (at_builtin; go_loud (refine wpList_append_r rfl _ _ rfl B1 (npK (fun q => q.pc == x.pc) L) (.slice A5 un c5) rfl HOA.out wr.heap.size x rfl HCN.out HLL.out HBS.out ?c0))
      case c0 =>
        intro v' w4 hown hk4
        have HK4 := Lib.hid (show Keeps (fun _ => False) w1 w4 from (HK.out.trans HKA.out (fun _ _ h => h)).trans hk4 (fun b hb e => by
          have h1 := (HLOW.out b e).1
          have h2 := HB1.out
          omega))
        have HKW4 := Lib.hid (HXK.out.trans HK4.out (fun _ _ h => h))
        have HB4 := Lib.hid ((HKW4.out.block mb (Array.getElem?_eq_some_iff.1 HB.out).1 (fun h => h)).trans HB.out)
        obtain ⟨A6, c6, hv6, _⟩ := id hown
        have HN6 := Lib.hid (show (npK (fun q => q.pc == x.pc) L ++ [x]).length = un + 1 from by rw [List.length_append, HUN.out]; rfl)
        rw [HN6.out] at hv6
        subst hv6
        have HRD := Lib.hid hown.reads
        have HTY := Lib.hid hown.typed
        have HPL := Lib.hid (show putL mx L x = if mx < (un : Int) + 1 then (npK (fun q => q.pc == x.pc) L ++ [x]).eraseIdx 0 else npK (fun q => q.pc == x.pc) L ++ [x] by
          unfold putL
          rw [HUN.out])
        clear hown hk4 x0 x1 x2 x3 c0
        have b0 : w4.cell? ⟨mb, 0, none⟩ = some (.int .i64 mx) := cell_atK HB4.out 0
        have b1 : w4.cell? ⟨mb, 1, none⟩ = some (.slice A i cap) := cell_atK HB4.out 1
        have b2 : w4.frozen? ⟨mb, 1, none⟩ = false := frozen_of_block HB4.out 1
        have hle6 := HRD.out.le
        obtain ⟨g6, o6, hA6, _⟩ : ∃ g o, A6 = some ⟨g, o, none⟩ ∧ True := by
          obtain ⟨_, _, h3 | ⟨b, o, h4, _⟩⟩ := HRD.out
          · omega
          · exact ⟨b, o, h4, trivial⟩
        subst hA6
        by_cases hgt : mx < (un : Int) + 1
        · have HR7 := Lib.hid (show KReads w4 (some ⟨g6, o6 + 4, none⟩) un (c6 - 1) (putL mx L x) from by
            rw [HPL.out, if_pos hgt]
            have := HRD.out.tail (by omega)
            simpa using this)
          have hput := RefKeep.put (mx := mx) ⟨_, HB4.out⟩ HR7.out
          have HP := Lib.hid hput.1
          have HKF := Lib.hid ((HKW4.out.mono (T := fun b => b = mb) (fun _ _ h => h.elim)).trans hput.2 (fun _ _ h => h))
          have h61 : ¬ c6 = 1 := by omega
          clear hput
          go_wp2_with fail
          refine bodyPost_end (results_none rfl _ _ _) rfl ⟨rfl, HP.out, HKF.out⟩
        · have HR7 := Lib.hid (show KReads w4 (some ⟨g6, o6, none⟩) (un + 1) c6 (putL mx L x) from by
            rw [HPL.out, if_neg hgt]
            exact HRD.out)
          have hput := RefKeep.put (mx := mx) ⟨_, HB4.out⟩ HR7.out
          have HP := Lib.hid hput.1
          have HKF := Lib.hid ((HKW4.out.mono (T := fun b => b = mb) (fun _ _ h => h.elim)).trans hput.2 (fun _ _ h => h))
          clear hput
          go_wp2_with fail
          refine bodyPost_end (results_none rfl _ _ _) rfl ⟨rfl, HP.out, HKF.out⟩
end Go.Proofs.YtlmnmncdoiealaaGreatDoor

/- SameOps -/
/- The walk of the law's sameOps over ops that are the same. -/
namespace Go.Proofs.YtlmnmncdoiealaaGreatDoor
open Go.RowKit Go.Deep
set_option linter.unusedVariables false
set_option linter.unusedSimpArgs false
set_option maxHeartbeats 2000000 in
set_option maxRecDepth 100000 in
theorem sameOps_same (A B : Option Addr) (n ca cb : Nat) (l : List Ir.Op) (w : World) (VA : OpsAt w A n ca l) (VB : OpsAt w B n cb l) (hca : ca ≤ 9223372036854775807) (hcb : cb ≤ 9223372036854775807) :
    Calls Tryz.prog 36 #[.slice A n ca, .slice B n cb] w fun e w' => e = .returned (.bool true) ∧ Keeps (fun _ => False) w w' := by
  have b1 := VA.le
  have b2 := VB.le
  have HA := Lib.hid VA
  have HB := Lib.hid VB
  clear VA VB
  go_enter Tryz.func36, Tryz.ntmps36
  go_wp2_with fail
  go_loopw [5] (fun s5 wr => ∃ i : Nat, i ≤ n ∧ s5 = .int .i64 i ∧ Keeps (fun _ => False) w wr) (fun s5 _ => n - (intOf s5).toNat)
  case atStart => exact ⟨0, by omega, rfl, Keeps.refl _ w⟩
  case round =>
    obtain ⟨i, hi, rfl, hK⟩ := hrel
    by_cases hlt : i < n
    · obtain ⟨ba, oa, rfl, p0, p1, p2, p3, p4, p5⟩ := (HA.out.quiet hK).get hlt
      obtain ⟨bb, ob, rfl, r0, r1, r2, r3, r4, r5⟩ := (HB.out.quiet hK).get hlt
      obtain ⟨op, hop⟩ : ∃ op, l.getD i Ir.nop = op := ⟨_, rfl⟩
      rw [hop] at p0 p1 p2 p3 p4 p5 r0 r1 r2 r3 r4 r5
      clear hop
      obtain ⟨ok, od, oaa, obb, oim, oat⟩ := op
      simp only at p0 p1 p2 p3 p4 p5 r0 r1 r2 r3 r4 r5
      have hi63 : (i : Int) < n := by omega
      go_wp2_with fail
      go_quiet (fail)
      go_wp2_with fail
      go_roundw
      case rel => exact ⟨i + 1, by omega, by go_num, hK.drewN _⟩
      case measure => simp [intOf]; omega
    · obtain rfl : i = n := by omega
      go_wp2_with fail
      go_ret
      exact ⟨rfl, hK⟩
end Go.Proofs.YtlmnmncdoiealaaGreatDoor
