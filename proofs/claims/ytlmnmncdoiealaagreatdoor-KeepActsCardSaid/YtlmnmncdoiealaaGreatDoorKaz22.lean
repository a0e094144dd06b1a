import Derived.Test.YtlmnmncdoiealaaGreatDoorKaz12
import Derived.Test.YtlmnmncdoiealaaGreatDoorKaz18

/- KeepT -/
/- The walk of keep's Pages. -/
namespace Go.Proofs.YtlmnmncdoiealaaGreatDoor
open Go.RowKit Go.Deep
set_option linter.unusedVariables false
set_option linter.unusedSimpArgs false

theorem flatMap_bound {L : Nat} (pg : K4 → List Int) : ∀ (l : List K4), (∀ k ∈ l, (pg k).length ≤ L) → (l.flatMap pg).length ≤ l.length * L
  | [], _ => by simp
  | k :: r, h => by
    have h0 := h k (by simp)
    have h1 := flatMap_bound pg r (fun q hq => h q (by simp [hq]))
    rw [List.flatMap_cons, List.length_append, List.length_cons, Nat.add_mul]
    omega
set_option maxHeartbeats 4000000 in
set_option maxRecDepth 100000 in
theorem keepPages_any (B kb : Nat) (mx : Int) (l : List K4) (pg : K4 → List Int) (rw : K4 → List (List Ir.Op)) (w : World) (K : KeepAt w B kb mx l pg rw) (hl : l.length ≤ 100) :
    Calls Tryz.prog 21 #[.pointer (some ⟨kb, 0, none⟩)] w fun e w' => ∃ v, e = .returned v ∧ IOwn w' w.heap.size (uniqI (l.flatMap pg)) v ∧ Keeps (fun _ => False) w w' := by
  have HK := Lib.hid K
  obtain ⟨v, hb, hko⟩ := K.box
  obtain ⟨A, cap, hv, _⟩ := id hko
  obtain ⟨n, hn⟩ : ∃ n, l.length = n := ⟨_, rfl⟩
  rw [hn] at hv
  subst hv
  have HBX := Lib.hid hb
  have HKO := Lib.hid hko
  have HLE := Lib.hid hn
  have hnb : n ≤ 100 := by omega
  have HLN := Lib.hid hnb
  have HFB := Lib.hid (fun i => show ((l.take i).flatMap pg).length ≤ 100000 from by
    have h1 := flatMap_bound (L := 1000) pg (l.take i) (fun k hk => (K.ents k (List.mem_of_mem_take hk)).short)
    have h2 : (l.take i).length ≤ 100 := by rw [List.length_take]; omega
    have h3 : (l.take i).length * 1000 ≤ 100 * 1000 := Nat.mul_le_mul_right _ h2
    omega)
  obtain ⟨H, hH⟩ : ∃ H, w.heap.size = H := ⟨_, rfl⟩
  have HHE := Lib.hid hH
  rw [hH]
  clear K hl hb hko hn hH
  go_enter Tryz.func21, Tryz.ntmps21
  have c0 : w.cell? ⟨kb, 1, none⟩ = some (.slice A n cap) := cell_atK HBX.out 1
  go_wp2_with fail
  clear c0
  go_loopw [3, 11] (fun s3 s11 wr => ∃ i : Nat, i ≤ n ∧ s11 = .int .i64 i ∧ IOwn wr H ((l.take i).flatMap pg) s3 ∧ Keeps (fun _ => False) w wr) (fun _ s11 _ => n - (intOf s11).toNat)
  case atStart => exact ⟨0, by omega, rfl, IOwn.nil _ _, Keeps.refl _ _⟩
  case round =>
    obtain ⟨i, hi, rfl, hU, hK⟩ := hrel
    have HU := Lib.hid hU
    have HKK := Lib.hid hK
    clear hU hK
    by_cases hlt : i < n
    · have hil : i < l.length := by rw [HLE.out]; exact hlt
      obtain ⟨g, go, cg, hvg, hgo, hcell⟩ := (HKO.out.quiet HKK.out).get (i := i) hil
      clear hgo
      rw [HLE.out] at hvg
      injection hvg with e1 e2 e3
      subst e1 e3
      have hi63 : (i : Int) < n := by omega
      have HTK := Lib.hid (take_getD l i hil k40)
      have HEN := Lib.hid (HK.out.ents _ (getD_memK hil))
      obtain ⟨k, hk⟩ : ∃ k, l.getD i k40 = k := ⟨_, rfl⟩
      rw [hk] at hcell HTK HEN
      clear hk hil
      have e0 : wr.cell? ⟨g, go + i * 4, none⟩ = some (.int .u32 k.pc) := hcell 0 _ (by omega) rfl
      have e1 : wr.cell? ⟨g, go + i * 4 + 1, none⟩ = some (.int .i64 k.many) := hcell 1 _ (by omega) rfl
      have e2 : wr.cell? ⟨g, go + i * 4 + 2, none⟩ = some (.slice k.A k.n k.c) := hcell 2 _ (by omega) rfl
      have e3 : wr.cell? ⟨g, go + i * 4 + 3, none⟩ = some (.slice k.P k.pn k.pcap) := hcell 3 _ (by omega) rfl
      have HXB := Lib.hid (blk_alloc_new wr (.cells #[.int .u32 k.pc, .int .i64 k.many, .slice k.A k.n k.c, .slice k.P k.pn k.pcap] 77))
      have HXK := Lib.hid ((Keeps.refl (fun _ => False) wr).alloc (.cells #[.int .u32 k.pc, .int .i64 k.many, .slice k.A k.n k.c, .slice k.P k.pn k.pcap] 77))
      go_upto_region 5 with fail
      have HK1 := Lib.hid (HKK.out.trans HXK.out (fun _ _ h => h))
      have HU1 := Lib.hid (HU.out.keep HXK.out (fun _ _ _ _ h => h))
      clear HXK HU HKK e0 e1 e2 e3 hcell
      generalize wr.alloc _ = w1 at *
      generalize wr.heap.size = x at *
      have x3 : w1.cell? ⟨x, 3, none⟩ = some (.slice k.P k.pn k.pcap) := cell_atK HXB.out 3
      have HMN := Lib.hid (show (l.take (i + 1)).flatMap pg = (l.take i).flatMap pg ++ pg k by rw [HTK.out, List.flatMap_append]; simp)
      have hll : ((l.take i).flatMap pg).length ≤ 100000 := HFB.out i
      obtain ⟨ul, hul⟩ : ∃ x, (l.take i).flatMap pg = x := ⟨_, rfl⟩
      rw [hul] at HU1 HMN hll
      have HPG := Lib.hid (HEN.out.pages.keep HK1.out (fun _ _ _ _ h => h))
      have HSH := Lib.hid HEN.out.short
      have HFL := Lib.hid hll
      clear hul hll HEN
      obtain ⟨A5, c5, hv5, _⟩ := id HU1.out
      obtain ⟨un, hun⟩ : ∃ x, ul.length = x := ⟨_, rfl⟩
      rw [hun] at hv5
      subst hv5
      clear hun
      have HOWN := Lib.hid (show ∀ b, (Value.slice A5 un c5).ownBlock = some b → H ≤ b from fun b hb => by
        obtain ⟨A, c, e, ho⟩ := HU1.out
        rw [e] at hb ho
        exact (ho.lt b hb).1)
      have HBS := Lib.hid (show H ≤ w1.heap.size by rw [← HHE.out]; exact HK1.out.size)
      have HPN := Lib.hid (show ul.length + k.pn ≤ 1000000 by have := HPG.out.reads.1; have := HSH.out; have := HFL.out; omega)
      go_wp2_with (at_builtin; go_loud (refine wpList_append_i rfl _ _ rfl H ul (.slice A5 un c5) rfl HU1.out k.P k.pn k.pcap (pg k) rfl HPG.out.reads.2.2 HPG.out.reads.1 HPG.out.nilK HPN.out HBS.out ?c0))
      case c0 =>
        intro v' w4 hown hk4
        have HU4 := Lib.hid (show IOwn w4 H ((l.take (i + 1)).flatMap pg) v' by rw [HMN.out]; exact hown)
        have HK4 := Lib.hid (show Keeps (fun _ => False) w w4 from HK1.out.trans hk4 (fun b hb h => by
          have := HOWN.out b h
          have := HHE.out
          omega))
        clear hown hk4 x3
        go_wp2_with fail
        go_roundw
        case rel => exact ⟨i + 1, by omega, by go_num, HU4.out, HK4.out⟩
        case measure => simp [intOf]; omega
    · obtain rfl : i = n := by omega
      have HF := Lib.hid (show IOwn wr H (l.flatMap pg) _ from by
        have := HU.out
        rwa [List.take_of_length_le (by rw [HLE.out]; exact Nat.le_refl _)] at this)
      have HB := Lib.hid (show (l.flatMap pg).length ≤ 1000000 from by
        have := HFB.out i
        rw [List.take_of_length_le (by rw [HLE.out]; exact Nat.le_refl _)] at this
        omega)
      clear HU
      obtain ⟨A5, c5, hv5, _⟩ := id HF.out
      obtain ⟨un, hun⟩ : ∃ x, (l.flatMap pg).length = x := ⟨_, rfl⟩
      rw [hun] at hv5
      subst hv5
      have hunb : un ≤ 1000000 := by rw [← hun]; exact HB.out
      clear hun
      have HOWN := Lib.hid (show ∀ b, (Value.slice A5 un c5).ownBlock = some b → H ≤ b from fun b hb => by
        obtain ⟨A, c, e, ho⟩ := HF.out
        rw [e] at hb ho
        exact (ho.lt b hb).1)
      have HSO := Lib.hid (sortI_any H (l.flatMap pg) A5 un c5 wr HF.out hunb)
      have HCM := Lib.hid (fun w5 (h : IOwn w5 H ((l.flatMap pg).mergeSort fun x y => decide (x ≤ y)) (.slice A5 un c5)) => compactI_any H _ A5 un c5 w5 h hunb)
      go_wp2_with fail
      refine (HSO.out).mono ?_
      rintro e w5 ⟨rfl, ho5, hk5⟩
      have HC5 := Lib.hid (HCM.out w5 ho5)
      have HK5 := Lib.hid (show Keeps (fun _ => False) w w5 from HKK.out.trans hk5 (fun b hb h => by
        have := HOWN.out b h
        have := HHE.out
        omega))
      clear ho5 hk5
      go_wp2_with fail
      refine (HC5.out).mono ?_
      rintro e w6 ⟨v6, rfl, ho6, hk6⟩
      have HO6 := Lib.hid ho6
      have HK6 := Lib.hid (show Keeps (fun _ => False) w w6 from HK5.out.trans hk6 (fun b hb h => by
        have := HOWN.out b h
        have := HHE.out
        omega))
      clear ho6 hk6
      go_wp2_with fail
      go_ret
      exact ⟨_, rfl, HO6.out, HK6.out⟩
end Go.Proofs.YtlmnmncdoiealaaGreatDoor

/- RkDrop -/
/- The walk of the reference's Drop. -/
namespace Go.Proofs.YtlmnmncdoiealaaGreatDoor
open Go.RowKit Go.Deep
set_option linter.unusedVariables false
set_option linter.unusedSimpArgs false

/-- an entry with the pages that it names -/
abbrev KQ := K4 × List Int
def kq0 : KQ := (k40, [])
theorem kq_getD (l : List KQ) (i : Nat) : (l.map (·.1)).getD i k40 = (l.getD i kq0).1 := by
  rw [List.getD_eq_getElem?_getD, List.getD_eq_getElem?_getD, List.getElem?_map]
  cases l[i]? <;> rfl
theorem kq_mem {l : List KQ} {i : Nat} (h : i < l.length) : l.getD i kq0 ∈ l := by
  rw [List.getD_eq_getElem?_getD, List.getElem?_eq_getElem h]
  exact List.getElem_mem h
/-- its pages lie there -/
def KqAt (w : World) (q : KQ) : Prop := Reads w q.1.P q.1.pn q.1.pcap (fun i => .int .i64 (q.2.getD i 0)) ∧ q.1.pn = q.2.length ∧ q.1.pcap ≤ 9223372036854775807
theorem KqAt.quiet {w w' : World} {q : KQ} (h : KqAt w q) (k : Keeps (fun _ => False) w w') : KqAt w' q := ⟨h.1.keep k (fun _ _ _ h => h), h.2⟩
theorem KqAt.at {w : World} {q : KQ} (h : KqAt w q) {j : Nat} (hj : j < q.1.pn) : ∃ b o, q.1.P = some ⟨b, o, none⟩ ∧ w.cell? ⟨b, o + j, none⟩ = some (.int .i64 (q.2.getD j 0)) := by
  obtain ⟨h1, h2 | ⟨b, o, h5, h6, h7⟩⟩ := h.1
  · omega
  · exact ⟨b, o, h5, h7 j hj⟩
theorem take_containsQ (P : List Int) (j : Nat) (h : j < P.length) (x : Int) : (P.take (j + 1)).contains x = ((P.take j).contains x || P.getD j 0 == x) := by
  rw [take_getD P j h 0, Bool.eq_iff_iff, Bool.or_eq_true, List.contains_iff_mem, List.contains_iff_mem, List.mem_append, List.mem_singleton, beq_iff_eq]
  exact or_congr Iff.rfl ⟨fun h => h.symm, fun h => h.symm⟩
def dropIn (page : Int) (l : List KQ) : List Int := (l.filter fun q => q.2.contains page).map (·.1.pc)
def dropOut (page : Int) (l : List KQ) : List K4 := (l.filter fun q => !q.2.contains page).map (·.1)
theorem dropIn_app (page : Int) (l : List KQ) (q : KQ) : dropIn page (l ++ [q]) = if q.2.contains page then dropIn page l ++ [q.1.pc] else dropIn page l := by
  unfold dropIn
  rw [List.filter_append, List.map_append]
  cases h : q.2.contains page <;> simp at h <;> simp [h]
theorem dropOut_app (page : Int) (l : List KQ) (q : KQ) : dropOut page (l ++ [q]) = if q.2.contains page then dropOut page l else dropOut page l ++ [q.1] := by
  unfold dropOut
  rw [List.filter_append, List.map_append]
  cases h : q.2.contains page <;> simp at h <;> simp [h]
theorem rk_u : 34 ≠ 51 ∧ 33 ≠ 34 := by decide
set_option maxHeartbeats 8000000 in
set_option maxRecDepth 100000 in
theorem rkDrop_any (mb : Nat) (mx : Int) (L : List KQ) (page : Int) (w : World) (R : RefKeep w mb mx (L.map (·.1))) (hp : ∀ q ∈ L, KqAt w q) (hl : L.length ≤ 100000) :
    Calls Tryz.prog 18 #[.pointer (some ⟨mb, 0, none⟩), .int .i64 page] w fun e w' => ∃ v, e = .returned v ∧ UOwn w' w.heap.size (dropIn page L) v ∧ RefKeep w' mb mx (dropOut page L) ∧ Keeps (· = mb) w w' := by
  obtain ⟨A, n, cap, hb, hr⟩ := R.box
  have HMB := Lib.hid R.lt
  have HB := Lib.hid hb
  have HR := Lib.hid hr
  have HPG := Lib.hid hp
  have HLE := Lib.hid (show L.length = n from by have := hr.len; rwa [List.length_map] at this)
  have hnc := hr.le
  have hnb : n ≤ 100000 := by have := HLE.out; omega
  have HNB := Lib.hid hnb
  obtain ⟨B, hB⟩ : ∃ B, w.heap.size = B := ⟨_, rfl⟩
  have HBE := Lib.hid hB
  rw [hB] at HMB ⊢
  clear hb hr R hl hp hB
  go_enter Tryz.func18, Tryz.ntmps18
  go_wp2_with fail
  go_loopw [5, 6, 7] (fun s5 s6 s7 wr => ∃ i : Nat, i ≤ n ∧ s7 = .int .i64 i ∧ ROwn wr B (dropOut page (L.take i)) s5 ∧ UOwn wr B (dropIn page (L.take i)) s6 ∧ Keeps (fun _ => False) w wr) (fun _ _ s7 _ => n - (intOf s7).toNat)
  case atStart => exact ⟨0, by omega, rfl, ROwn.nil _ _, UOwn.nil _ _, Keeps.refl _ _⟩
  case round =>
    obtain ⟨i, hi, rfl, hO, hU, hK⟩ := hrel
    have HO := Lib.hid hO
    have HU := Lib.hid hU
    have HK := Lib.hid hK
    clear hO hU hK
    have c0 : wr.cell? ⟨mb, 1, none⟩ = some (.slice A n cap) := HK.out.cell' (cell_atK HB.out 1) (fun h => h)
    by_cases hlt : i < n
    · have hil : i < L.length := by rw [HLE.out]; exact hlt
      obtain ⟨b, o, rfl, hcell⟩ := (HR.out.quiet HK.out).get hlt
      have hi63 : (i : Int) < n := by omega
      have HTK := Lib.hid (take_getD L i hil kq0)
      have HKQ := Lib.hid ((HPG.out _ (kq_mem hil)).quiet HK.out)
      rw [kq_getD] at hcell
      obtain ⟨⟨k, ps⟩, hk⟩ : ∃ k, L.getD i kq0 = k := ⟨_, rfl⟩
      rw [hk] at hcell HTK HKQ
      clear hk hil
      have e0 : wr.cell? ⟨b, o + i * 4, none⟩ = some (.int .u32 k.pc) := hcell 0 _ (by omega) rfl
      have e1 : wr.cell? ⟨b, o + i * 4 + 1, none⟩ = some (.int .i64 k.many) := hcell 1 _ (by omega) rfl
      have e2 : wr.cell? ⟨b, o + i * 4 + 2, none⟩ = some (.slice k.A k.n k.c) := hcell 2 _ (by omega) rfl
      have e3 : wr.cell? ⟨b, o + i * 4 + 3, none⟩ = some (.slice k.P k.pn k.pcap) := hcell 3 _ (by omega) rfl
      clear hcell
      have HC0 := Lib.hid (And.intro c0 (And.intro e0 (And.intro e1 (And.intro e2 e3))))
      have HPN := Lib.hid (show k.pn = ps.length from HKQ.out.2.1)
      have hpb : k.pn ≤ 9223372036854775807 := Nat.le_trans HKQ.out.1.1 HKQ.out.2.2
      have HPB := Lib.hid hpb
      go_wp2_with fail
      go_loopw [8, 9] (fun s8 s9 wi => ∃ j : Nat, j ≤ k.pn ∧ s9 = .int .i64 j ∧ s8 = .bool ((ps.take j).contains page) ∧ wi = wr) (fun _ s9 _ => k.pn - (intOf s9).toNat)
      case atStart => exact ⟨0, by omega, rfl, rfl, rfl⟩
      case round =>
        obtain ⟨j, hj, rfl, rfl, rfl⟩ := hrel
        have c0 := HC0.out.1
        have e3 := HC0.out.2.2.2.2
        by_cases hjl : j < k.pn
        · obtain ⟨pb, po, hPA0, hpj0⟩ := HKQ.out.at hjl
          have HTC := Lib.hid (take_containsQ ps j (by rw [← HPN.out]; exact hjl) page)
          obtain ⟨fb, hfb⟩ : ∃ b, (ps.take j).contains page = b := ⟨_, rfl⟩
          rw [hfb] at HTC ⊢
          have hpj : wr.cell? ⟨pb, po + j, none⟩ = some (.int .i64 (ps.getD j 0)) := hpj0
          obtain ⟨y, hy⟩ : ∃ y, ps.getD j 0 = y := ⟨_, rfl⟩
          rw [hy] at hpj HTC
          have hPA : k.P = some ⟨pb, po, none⟩ := hPA0
          rw [hPA] at e3
          clear hfb hy hPA0 hpj0
          have hj63 : (j : Int) < k.pn := by omega
          cases hyx : (y == page)
          · have HTT := Lib.hid (show (ps.take (j + 1)).contains page = fb by rw [HTC.out, hyx, Bool.or_false])
            go_wp2_with fail
            go_roundw
            case rel => exact ⟨j + 1, by omega, by go_num, congrArg Value.bool HTT.out.symm, trivial⟩
            case measure => simp [intOf]; omega
          · have HTT := Lib.hid (show (ps.take (j + 1)).contains page = true by rw [HTC.out, hyx, Bool.or_true])
            go_wp2_with fail
            go_roundw
            case rel => exact ⟨j + 1, by omega, by go_num, congrArg Value.bool HTT.out.symm, trivial⟩
            case measure => simp [intOf]; omega
        · obtain rfl : j = k.pn := by omega
          rw [show ps.take k.pn = ps from List.take_of_length_le (by rw [HPN.out]; exact Nat.le_refl _)]
          have HIN := Lib.hid (show dropIn page (L.take (i + 1)) = if ps.contains page then dropIn page (L.take i) ++ [k.pc] else dropIn page (L.take i) by rw [HTK.out]; exact dropIn_app _ _ _)
          have HOUT := Lib.hid (show dropOut page (L.take (i + 1)) = if ps.contains page then dropOut page (L.take i) else dropOut page (L.take i) ++ [k] by rw [HTK.out]; exact dropOut_app _ _ _)
          have e0 := HC0.out.2.1
          have e1 := HC0.out.2.2.1
          have e2 := HC0.out.2.2.2.1
          obtain ⟨A5, c5, hv5, _⟩ := id HO.out
          obtain ⟨un, hun⟩ : ∃ z, (dropOut page (L.take i)).length = z := ⟨_, rfl⟩
          rw [hun] at hv5
          subst hv5
          obtain ⟨A6, c6, hv6, _⟩ := id HU.out
          obtain ⟨vn, hvn⟩ : ∃ z, (dropIn page (L.take i)).length = z := ⟨_, rfl⟩
          rw [hvn] at hv6
          subst hv6
          have HB5 := Lib.hid (show (dropOut page (L.take i)).length ≤ 1000000 from by unfold dropOut; rw [List.length_map]; exact Nat.le_trans (List.length_filter_le _ _) (by rw [List.length_take]; have := HNB.out; omega))
          have HB6 := Lib.hid (show (dropIn page (L.take i)).length ≤ 1000000 from by unfold dropIn; rw [List.length_map]; exact Nat.le_trans (List.length_filter_le _ _) (by rw [List.length_take]; have := HNB.out; omega))
          clear hun hvn
          have HLOW5 := Lib.hid HO.out.low
          have HLOW6 := Lib.hid (show ∀ g, (Value.slice A6 vn c6).ownBlock = some g → B ≤ g from fun g hg => by
            obtain ⟨A, c, e, ho⟩ := HU.out
            rw [e] at hg ho
            exact (ho.lt g hg).1)
          cases hhas : ps.contains page
          · have HIN2 := Lib.hid (show dropIn page (L.take (i + 1)) = dropIn page (L.take i) by rw [HIN.out, hhas]; rfl)
            have HOUT2 := Lib.hid (show dropOut page (L.take (i + 1)) = dropOut page (L.take i) ++ [k] by rw [HOUT.out, hhas]; rfl)
            have HKA := Lib.hid ((Keeps.refl (fun _ => False) wr).alloc (.cells #[.int .u32 k.pc, .int .i64 k.many, .slice k.A k.n k.c, .slice k.P k.pn k.pcap] 51))
            have HCN := Lib.hid (fun j u hj => cells_new wr #[.int .u32 k.pc, .int .i64 k.many, .slice k.A k.n k.c, .slice k.P k.pn k.pcap].toList 51 j u hj)
            have HOA := Lib.hid (HO.out.quiet HKA.out)
            have HUA := Lib.hid (HU.out.keep HKA.out (fun _ _ h => h))
            have HBS := Lib.hid (show B ≤ (wr.alloc (.cells #[.int .u32 k.pc, .int .i64 k.many, .slice k.A k.n k.c, .slice k.P k.pn k.pcap] 51)).heap.size by
              have h1 := HK.out.size
              have h2 := HKA.out.size
              have h4 := HBE.out
              omega)
            clear HIN HOUT HO HU
            go_wp2_with (at_builtin; go_loud (refine wpList_append_r rfl _ _ rfl B (dropOut page (L.take i)) (.slice A5 un c5) rfl HOA.out wr.heap.size k rfl HCN.out HB5.out HBS.out ?c0))
            case c0 =>
              intro v' w4 hown hk4
              have HO4 := Lib.hid (show ROwn w4 B (dropOut page (L.take (i + 1))) v' by rw [HOUT2.out]; exact hown)
              have HU4 := Lib.hid (show UOwn w4 B (dropIn page (L.take (i + 1))) (.slice A6 vn c6) by
                rw [HIN2.out]
                refine HUA.out.keep hk4 (fun g hg e => ?_)
                obtain ⟨c1, t1⟩ := HUA.out.typed g hg
                obtain ⟨c2, t2⟩ := HOA.out.typed g e
                exact rk_u.1 (obj_ty t1 t2))
              have HK4 := Lib.hid (show Keeps (fun _ => False) w w4 from (HK.out.trans HKA.out (fun _ _ h => h)).trans hk4 (fun b hb e => by
                have h1 := (HLOW5.out b e).1
                have h2 := HBE.out
                omega))
              clear hown hk4 c0 e0 e1 e2 e3
              go_wp2_with fail
              go_roundw
              case rel => exact ⟨i + 1, by omega, by go_num, HO4.out, HU4.out, HK4.out⟩
              case measure => simp [intOf]; omega
          · have HIN2 := Lib.hid (show dropIn page (L.take (i + 1)) = dropIn page (L.take i) ++ [k.pc] by rw [HIN.out, hhas]; rfl)
            have HOUT2 := Lib.hid (show dropOut page (L.take (i + 1)) = dropOut page (L.take i) by rw [HOUT.out, hhas]; rfl)
            have HKA := Lib.hid ((Keeps.refl (fun _ => False) wr).alloc (.cells #[.int .u32 k.pc] 34))
            have HCN := Lib.hid (fun j u hj => cells_new wr [.int .u32 k.pc] 34 j u hj)
            have HOA := Lib.hid (HO.out.quiet HKA.out)
            have HUA := Lib.hid (HU.out.keep HKA.out (fun _ _ h => h))
            have HBS := Lib.hid (show B ≤ (wr.alloc (.cells #[.int .u32 k.pc] 34)).heap.size by
              have h1 := HK.out.size
              have h2 := HKA.out.size
              have h4 := HBE.out
              omega)
            clear HIN HOUT HO HU
            go_wp2_with (at_builtin; go_loud (refine wpList_append_u rfl _ _ rfl B (dropIn page (L.take i)) (.slice A6 vn c6) rfl HUA.out wr.heap.size k.pc rfl HCN.out HB6.out HBS.out ?c0))
            case c0 =>
              intro v' w4 hown hk4
              have HU4 := Lib.hid (show UOwn w4 B (dropIn page (L.take (i + 1))) v' by rw [HIN2.out]; exact hown)
              have HO4 := Lib.hid (show ROwn w4 B (dropOut page (L.take (i + 1))) (.slice A5 un c5) by
                rw [HOUT2.out]
                refine HOA.out.keep hk4 (fun g hg e => ?_)
                obtain ⟨c1, t1⟩ := HOA.out.typed g hg
                obtain ⟨c2, t2⟩ := HUA.out.typed g e
                exact rk_u.1 (obj_ty t2 t1))
              have HK4 := Lib.hid (show Keeps (fun _ => False) w w4 from (HK.out.trans HKA.out (fun _ _ h => h)).trans hk4 (fun b hb e => by
                have h1 := HLOW6.out b e
                have h2 := HBE.out
                omega))
              clear hown hk4 c0 e0 e1 e2 e3
              go_wp2_with fail
              go_roundw
              case rel => exact ⟨i + 1, by omega, by go_num, HO4.out, HU4.out, HK4.out⟩
              case measure => simp [intOf]; omega
    · obtain rfl : i = n := by omega
      rw [show L.take i = L from List.take_of_length_le (by rw [HLE.out]; exact Nat.le_refl _)] at HO HU
      obtain ⟨A5, c5, hv5, _⟩ := id HO.out
      obtain ⟨un, hun⟩ : ∃ z, (dropOut page L).length = z := ⟨_, rfl⟩
      rw [hun] at hv5
      subst hv5
      have HB4 := Lib.hid ((HK.out.block mb (Array.getElem?_eq_some_iff.1 HB.out).1 (fun h => h)).trans HB.out)
      have hput := RefKeep.put (mx := mx) ⟨_, HB4.out⟩ HO.out.reads
      have HP := Lib.hid hput.1
      have HKF := Lib.hid ((HK.out.mono (T := fun b => b = mb) (fun _ _ h => h.elim)).trans hput.2 (fun _ _ h => h))
      have HUF := Lib.hid (HU.out.keep hput.2 (fun g hg e => by
        have e : g = mb := e
        obtain ⟨c2, t2⟩ := HU.out.typed g hg
        rw [e] at t2
        exact rk_u.2 (obj_ty HB4.out t2)))
      have b1 : wr.cell? ⟨mb, 1, none⟩ = some (.slice A i cap) := cell_atK HB4.out 1
      have b2 : wr.frozen? ⟨mb, 1, none⟩ = false := frozen_of_block HB4.out 1
      clear hput c0
      go_wp2_with fail
      go_ret
      exact ⟨_, rfl, HUF.out, HP.out, HKF.out⟩
end Go.Proofs.YtlmnmncdoiealaaGreatDoor

/- Uniq -/
/- Numbers put in their places one by one are the numbers sorted, each once. -/
namespace Go.Proofs.YtlmnmncdoiealaaGreatDoor
open Go.RowKit
set_option linter.unusedVariables false
set_option linter.unusedSimpArgs false

/-- a number put in its place, if it is not there -/
def insU : List Int → Int → List Int
  | [], p => [p]
  | a :: r, p => if a < p then a :: insU r p else if a = p then a :: r else p :: a :: r
theorem insU_mem (O : List Int) (p x : Int) : x ∈ insU O p ↔ x ∈ O ∨ x = p := by
  induction O with
  | nil => simp [insU]
  | cons a r ih =>
    unfold insU
    split
    · rw [List.mem_cons, ih, List.mem_cons]
      constructor
      · rintro (h | h | h)
        · exact .inl (.inl h)
        · exact .inl (.inr h)
        · exact .inr h
      · rintro ((h | h) | h)
        · exact .inl h
        · exact .inr (.inl h)
        · exact .inr (.inr h)
    · split
      · rename_i h1 h2
        constructor
        · exact .inl
        · rintro (h | h)
          · exact h
          · rw [h, ← h2]; exact List.mem_cons_self
      · rw [List.mem_cons]
        constructor
        · rintro (h | h)
          · exact .inr h
          · exact .inl h
        · rintro (h | h)
          · exact .inr h
          · exact .inl h
theorem insU_sorted {O : List Int} (h : O.Pairwise (· < ·)) (p : Int) : (insU O p).Pairwise (· < ·) := by
  induction O with
  | nil => simp [insU]
  | cons a r ih =>
    have h1 := List.pairwise_cons.1 h
    unfold insU
    split
    · rename_i h2
      refine List.pairwise_cons.2 ⟨fun y hy => ?_, ih h1.2⟩
      rcases (insU_mem r p y).1 hy with h3 | h3
      · exact h1.1 y h3
      · omega
    · split
      · exact h
      · refine List.pairwise_cons.2 ⟨fun y hy => ?_, h⟩
        rcases List.mem_cons.1 hy with h3 | h3
        · omega
        · have := h1.1 y h3
          omega
theorem insU_len (O : List Int) (p : Int) : (insU O p).length ≤ O.length + 1 := by
  induction O with
  | nil => simp [insU]
  | cons a r ih =>
    unfold insU
    split
    · simp only [List.length_cons]; omega
    · split <;> simp
/-- by the place where it goes -/
theorem insU_at (p : Int) : ∀ (O : List Int) (t : Nat), t ≤ O.length → (∀ j, j < t → O.getD j 0 < p) → (t = O.length ∨ ¬ O.getD t 0 < p) → insU O p = if t < O.length ∧ O.getD t 0 = p then O else O.take t ++ [p] ++ O.drop t
  | [], t, h1, _, _ => by
    obtain rfl : t = 0 := by simpa using h1
    simp [insU]
  | a :: r, 0, h1, _, h3 => by
    have h4 : ¬ a < p := by
      rcases h3 with h3 | h3
      · simp at h3
      · simpa using h3
    unfold insU
    rw [if_neg h4]
    by_cases e : a = p <;> simp [e]
  | a :: r, t + 1, h1, h2, h3 => by
    have h4 : a < p := by simpa using h2 0 (by omega)
    have ih := insU_at p r t (by simpa using h1) (fun j hj => by simpa using h2 (j + 1) (by omega)) (by
      rcases h3 with h3 | h3
      · exact .inl (by simpa using h3)
      · exact .inr (by simpa using h3))
    unfold insU
    rw [if_pos h4, ih]
    by_cases e : t < r.length ∧ r.getD t 0 = p
    · rw [if_pos e, if_pos (by simpa using e)]
    · rw [if_neg e, if_neg (by simpa using e)]
      simp
def insAll (s : List Int) : List Int := s.foldl insU []
theorem insAll_snoc (s : List Int) (p : Int) : insAll (s ++ [p]) = insU (insAll s) p := by unfold insAll; rw [List.foldl_append]; rfl
theorem insAll_spec (s : List Int) : (insAll s).Pairwise (· < ·) ∧ (∀ x, x ∈ insAll s ↔ x ∈ s) ∧ (insAll s).length ≤ s.length := by
  have key : ∀ (s O : List Int), O.Pairwise (· < ·) → (s.foldl insU O).Pairwise (· < ·) ∧ (∀ x, x ∈ s.foldl insU O ↔ x ∈ O ∨ x ∈ s) ∧ (s.foldl insU O).length ≤ O.length + s.length := by
    intro s
    induction s with
    | nil => intro O h; exact ⟨h, fun x => by simp, by simp⟩
    | cons p r ih =>
      intro O h
      obtain ⟨h1, h2, h3⟩ := ih (insU O p) (insU_sorted h p)
      refine ⟨h1, fun x => ?_, ?_⟩
      · rw [List.foldl_cons, h2 x, insU_mem, List.mem_cons]
        constructor
        · rintro ((h | h) | h)
          · exact .inl h
          · exact .inr (.inl h)
          · exact .inr (.inr h)
        · rintro (h | h | h)
          · exact .inl (.inl h)
          · exact .inl (.inr h)
          · exact .inr h
      · have := insU_len O p
        simp only [List.foldl_cons, List.length_cons]
        omega
  obtain ⟨h1, h2, h3⟩ := key s [] List.Pairwise.nil
  refine ⟨h1, fun x => ?_, ?_⟩
  · show x ∈ s.foldl insU [] ↔ _
    simpa using h2 x
  · show (s.foldl insU []).length ≤ _
    simpa using h3
theorem compact_sorted (d : Array Int) (hs : ∀ i j, i ≤ j → j < d.size → d[i]! ≤ d[j]!) : ∀ m, m ≤ d.size → (Lib.compactUpTo d m).Pairwise (· < ·) ∧ ∀ x ∈ Lib.compactUpTo d m, 0 < m ∧ x ≤ d[m - 1]! := by
  intro m
  induction m with
  | zero => intro _; simp [Lib.compactUpTo]
  | succ m ih =>
    intro hm
    obtain ⟨h1, h2⟩ := ih (by omega)
    rw [Lib.compactUpTo_succ]
    by_cases hk : Lib.keeps d m = true
    · rw [if_pos hk]
      refine ⟨List.pairwise_append.2 ⟨h1, by simp, fun x hx y hy => ?_⟩, fun x hx => ⟨by omega, ?_⟩⟩
      · rw [List.mem_singleton] at hy
        subst hy
        obtain ⟨h3, h4⟩ := h2 x hx
        unfold Lib.keeps at hk
        have h5 := of_decide_eq_true hk
        have h6 := hs (m - 1) m (by omega) (by omega)
        rcases h5 with h5 | h5
        · omega
        · omega
      · rw [Nat.add_sub_cancel]
        rcases List.mem_append.1 hx with h | h
        · obtain ⟨h3, h4⟩ := h2 x h
          have h6 := hs (m - 1) m (by omega) (by omega)
          omega
        · rw [List.mem_singleton] at h
          omega
    · rw [if_neg hk, List.append_nil]
      refine ⟨h1, fun x hx => ⟨by omega, ?_⟩⟩
      obtain ⟨h3, h4⟩ := h2 x hx
      have h6 := hs (m - 1) m (by omega) (by omega)
      rw [Nat.add_sub_cancel]
      omega
theorem uniqI_sorted (s : List Int) : (uniqI s).Pairwise (· < ·) := by
  unfold uniqI Lib.compact
  have tr : ∀ a b c : Int, decide (a ≤ b) = true → decide (b ≤ c) = true → decide (a ≤ c) = true := fun a b c h1 h2 => by simp only [decide_eq_true_eq] at *; omega
  have tot : ∀ a b : Int, (decide (a ≤ b) || decide (b ≤ a)) = true := fun a b => by simp only [Bool.or_eq_true, decide_eq_true_eq]; omega
  have hp := List.pairwise_mergeSort tr tot s
  refine (compact_sorted _ (fun i j hij hj => ?_) _ (by simp)).1
  by_cases e : i = j
  · subst e; exact Int.le_refl _
  · have hj' : j < (s.mergeSort fun x y => decide (x ≤ y)).length := by simpa using hj
    have := List.pairwise_iff_getElem.1 hp i j (by omega) hj' (by omega)
    rw [decide_eq_true_eq] at this
    rw [getElem!_pos _ i (by simpa using (by omega : i < (s.mergeSort fun x y => decide (x ≤ y)).length)), getElem!_pos _ j (by simpa using hj)]
    simpa using this
theorem insAll_uniq (s : List Int) : insAll s = uniqI s := by
  obtain ⟨h1, h2, _⟩ := insAll_spec s
  have h3 := uniqI_sorted s
  have n1 : (insAll s).Nodup := h1.imp (fun h e => by omega)
  have n2 : (uniqI s).Nodup := h3.imp (fun h e => by omega)
  refine List.Perm.eq_of_pairwise (le := fun a b => a < b) (fun a b _ _ h1 h2 => by omega) h1 h3 ((List.perm_ext_iff_of_nodup n1 n2).2 fun x => ?_)
  rw [h2 x, mem_uniqI]
end Go.Proofs.YtlmnmncdoiealaaGreatDoor
