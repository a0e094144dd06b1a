import Derived.Test.YtlmnmncdoiealaaDoorKdz16
import Derived.Test.YtlmnmncdoiealaaDoorKdz21

/- KeepT -/
/- The walk of keep's Pages. -/
namespace Go.Proofs.YtlmnmncdoiealaaDoor
open Go.RowKit Go.Deep
set_option linter.unusedVariables false
set_option linter.unusedSimpArgs false

theorem flatMap_bound {L : Nat} (pg : K4 → List Int) : ∀ (l : List K4), (∀ k ∈ l, (pg k).length ≤ L) → (l.flatMap pg).length ≤ l.length * L
  | [], _ => by simp
  | k :: r, h => by
    have h0 := h k (by simp)
    have h1 := flatMap_bound pg r (fun q hq => h q (by simp [hq]))
    rw [List.flatMap_cons, List.length_append, List.length_cons, Nat.add_mul]
    omega
set_option maxHeartbeats 4000000 in
set_option maxRecDepth 100000 in
theorem keepPages_any (B kb : Nat) (mx : Int) (l : List K4) (pg : K4 → List Int) (rw : K4 → List (List Ir.Op)) (w : World) (K : KeepAt w B kb mx l pg rw) (hl : l.length ≤ 100) :
    Calls Tryd.prog 9 #[.pointer (some ⟨kb, 0, none⟩)] w fun e w' => ∃ v, e = .returned v ∧ IOwn w' w.heap.size (uniqI (l.flatMap pg)) v ∧ Keeps (fun _ => False) w w' := by
  have HK := Lib.hid K
  obtain ⟨v, hb, hko⟩ := K.box
  obtain ⟨A, cap, hv, _⟩ := id hko
  obtain ⟨n, hn⟩ : ∃ n, l.length = n := ⟨_, rfl⟩
  rw [hn] at hv
  subst hv
  have HBX := Lib.hid hb
  have HKO := Lib.hid hko
  have HLE := Lib.hid hn
  have hnb : n ≤ 100 := by omega
  have HLN := Lib.hid hnb
  have HFB := Lib.hid (fun i => show ((l.take i).flatMap pg).length ≤ 100000 from by
    have h1 := flatMap_bound (L := 1000) pg (l.take i) (fun k hk => (K.ents k (List.mem_of_mem_take hk)).short)
    have h2 : (l.take i).length ≤ 100 := by rw [List.length_take]; omega
    have h3 : (l.take i).length * 1000 ≤ 100 * 1000 := Nat.mul_le_mul_right _ h2
    omega)
  obtain ⟨H, hH⟩ : ∃ H, w.heap.size = H := ⟨_, rfl⟩
  have HHE := Lib.hid hH
  rw [hH]
  clear K hl hb hko hn hH
  go_enter Tryd.func9, Tryd.ntmps9
  have c0 : w.cell? ⟨kb, 1, none⟩ = some (.slice A n cap) := cell_atK HBX.out 1
  go_wp2_with fail
  clear c0
  go_loopw [3, 11] (fun s3 s11 wr => ∃ i : Nat, i ≤ n ∧ s11 = .int .i64 i ∧ IOwn wr H ((l.take i).flatMap pg) s3 ∧ Keeps (fun _ => False) w wr) (fun _ s11 _ => n - (intOf s11).toNat)
  case atStart => exact ⟨0, by omega, rfl, IOwn.nil _ _, Keeps.refl _ _⟩
  case round =>
    obtain ⟨i, hi, rfl, hU, hK⟩ := hrel
    have HU := Lib.hid hU
    have HKK := Lib.hid hK
    clear hU hK
    by_cases hlt : i < n
    · have hil : i < l.length := by rw [HLE.out]; exact hlt
      obtain ⟨g, go, cg, hvg, hgo, hcell⟩ := (HKO.out.quiet HKK.out).get (i := i) hil
      clear hgo
      rw [HLE.out] at hvg
      injection hvg with e1 e2 e3
      subst e1 e3
      have hi63 : (i : Int) < n := by omega
      have HTK := Lib.hid (take_getD l i hil k40)
      have HEN := Lib.hid (HK.out.ents _ (getD_memK hil))
      obtain ⟨k, hk⟩ : ∃ k, l.getD i k40 = k := ⟨_, rfl⟩
      rw [hk] at hcell HTK HEN
      clear hk hil
      have e0 : wr.cell? ⟨g, go + i * 4, none⟩ = some (.int .u32 k.pc) := hcell 0 _ (by omega) rfl
      have e1 : wr.cell? ⟨g, go + i * 4 + 1, none⟩ = some (.int .i64 k.many) := hcell 1 _ (by omega) rfl
      have e2 : wr.cell? ⟨g, go + i * 4 + 2, none⟩ = some (.slice k.A k.n k.c) := hcell 2 _ (by omega) rfl
      have e3 : wr.cell? ⟨g, go + i * 4 + 3, none⟩ = some (.slice k.P k.pn k.pcap) := hcell 3 _ (by omega) rfl
      have HXB := Lib.hid (blk_alloc_new wr (.cells #[.int .u32 k.pc, .int .i64 k.many, .slice k.A k.n k.c, .slice k.P k.pn k.pcap] 76))
      have HXK := Lib.hid ((Keeps.refl (fun _ => False) wr).alloc (.cells #[.int .u32 k.pc, .int .i64 k.many, .slice k.A k.n k.c, .slice k.P k.pn k.pcap] 76))
      go_upto_region 5 with fail
      have HK1 := Lib.hid (HKK.out.trans HXK.out (fun _ _ h => h))
      have HU1 := Lib.hid (HU.out.keep HXK.out (fun _ _ _ _ h => h))
      clear HXK HU HKK e0 e1 e2 e3 hcell
      generalize wr.alloc _ = w1 at *
      generalize wr.heap.size = x at *
      have x3 : w1.cell? ⟨x, 3, none⟩ = some (.slice k.P k.pn k.pcap) := cell_atK HXB.out 3
      have HMN := Lib.hid (show (l.take (i + 1)).flatMap pg = (l.take i).flatMap pg ++ pg k by rw [HTK.out, List.flatMap_append]; simp)
      have hll : ((l.take i).flatMap pg).length ≤ 100000 := HFB.out i
      obtain ⟨ul, hul⟩ : ∃ x, (l.take i).flatMap pg = x := ⟨_, rfl⟩
      rw [hul] at HU1 HMN hll
      have HPG := Lib.hid (HEN.out.pages.keep HK1.out (fun _ _ _ _ h => h))
      have HSH := Lib.hid HEN.out.short
      have HFL := Lib.hid hll
      clear hul hll HEN
      obtain ⟨A5, c5, hv5, _⟩ := id HU1.out
      obtain ⟨un, hun⟩ : ∃ x, ul.length = x := ⟨_, rfl⟩
      rw [hun] at hv5
      subst hv5
      clear hun
      have HOWN := Lib.hid (show ∀ b, (Value.slice A5 un c5).ownBlock = some b → H ≤ b from fun b hb => by
        obtain ⟨A, c, e, ho⟩ := HU1.out
        rw [e] at hb ho
        exact (ho.lt b hb).1)
      have HBS := Lib.hid (show H ≤ w1.heap.size by rw [← HHE.out]; exact HK1.out.size)
      have HPN := Lib.hid (show ul.length + k.pn ≤ 1000000 by have := HPG.out.reads.1; have := HSH.out; have := HFL.out; omega)
      go_wp2_with (at_builtin; go_loud (refine wpList_append_i rfl _ _ rfl H ul (.slice A5 un c5) rfl HU1.out k.P k.pn k.pcap (pg k) rfl HPG.out.reads.2.2 HPG.out.reads.1 HPG.out.nilK HPN.out HBS.out ?c0))
      case c0 =>
        intro v' w4 hown hk4
        have HU4 := Lib.hid (show IOwn w4 H ((l.take (i + 1)).flatMap pg) v' by rw [HMN.out]; exact hown)
        have HK4 := Lib.hid (show Keeps (fun _ => False) w w4 from HK1.out.trans hk4 (fun b hb h => by
          have := HOWN.out b h
          have := HHE.out
          omega))
        clear hown hk4 x3
        go_wp2_with fail
        go_roundw
        case rel => exact ⟨i + 1, by omega, by go_num, HU4.out, HK4.out⟩
        case measure => simp [intOf]; omega
    · obtain rfl : i = n := by omega
      have HF := Lib.hid (show IOwn wr H (l.flatMap pg) _ from by
        have := HU.out
        rwa [List.take_of_length_le (by rw [HLE.out]; exact Nat.le_refl _)] at this)
      have HB := Lib.hid (show (l.flatMap pg).length ≤ 1000000 from by
        have := HFB.out i
        rw [List.take_of_length_le (by rw [HLE.out]; exact Nat.le_refl _)] at this
        omega)
      clear HU
      obtain ⟨A5, c5, hv5, _⟩ := id HF.out
      obtain ⟨un, hun⟩ : ∃ x, (l.flatMap pg).length = x := ⟨_, rfl⟩
      rw [hun] at hv5
      subst hv5
      have hunb : un ≤ 1000000 := by rw [← hun]; exact HB.out
      clear hun
      have HOWN := Lib.hid (show ∀ b, (Value.slice A5 un c5).ownBlock = some b → H ≤ b from fun b hb => by
        obtain ⟨A, c, e, ho⟩ := HF.out
        rw [e] at hb ho
        exact (ho.lt b hb).1)
      have HSO := Lib.hid (sortI_any H (l.flatMap pg) A5 un c5 wr HF.out hunb)
      have HCM := Lib.hid (fun w5 (h : IOwn w5 H ((l.flatMap pg).mergeSort fun x y => decide (x ≤ y)) (.slice A5 un c5)) => compactI_any H _ A5 un c5 w5 h hunb)
      go_wp2_with fail
      refine (HSO.out).mono ?_
      rintro e w5 ⟨rfl, ho5, hk5⟩
      have HC5 := Lib.hid (HCM.out w5 ho5)
      have HK5 := Lib.hid (show Keeps (fun _ => False) w w5 from HKK.out.trans hk5 (fun b hb h => by
        have := HOWN.out b h
        have := HHE.out
        omega))
      clear ho5 hk5
      go_wp2_with fail
      refine (HC5.out).mono ?_
      rintro e w6 ⟨v6, rfl, ho6, hk6⟩
      have HO6 := Lib.hid ho6
      have HK6 := Lib.hid (show Keeps (fun _ => False) w w6 from HK5.out.trans hk6 (fun b hb h => by
        have := HOWN.out b h
        have := HHE.out
        omega))
      clear ho6 hk6
      go_wp2_with fail
      go_ret
      exact ⟨_, rfl, HO6.out, HK6.out⟩
end Go.Proofs.YtlmnmncdoiealaaDoor

/- KeepV -/
/- Rows of one op, and numbers, as a literal lays them. -/
namespace Go.Proofs.YtlmnmncdoiealaaDoor
open Go.RowKit Go.Deep
set_option linter.unusedVariables false
set_option linter.unusedSimpArgs false

theorem owns_lit (w : World) (e : TypeId) (size n : Nat) (xs : List Value) (hl : xs.length = n * size) (hn : n ≤ 1000000) : (w.alloc (.cells xs.toArray e)).ownsRow 0 e size (.slice (some ⟨w.heap.size, 0, none⟩) n n) n xs :=
  ⟨hl, .inr ⟨w.heap.size, n, xs.toArray, rfl, Nat.zero_le _, blk_alloc_new _ _, Nat.le_refl _, by unfold maxLen; omega, by simpa using hl, by rw [← hl]; simp⟩⟩
theorem IOwn.lit (w : World) (l : List Int) (hn : l.length ≤ 1000000) : IOwn (w.alloc (.cells (l.map fun x => Value.int .i64 x).toArray 3)) 0 l (.slice (some ⟨w.heap.size, 0, none⟩) l.length l.length) :=
  ⟨_, _, rfl, owns_lit w _ 1 l.length _ (by rw [List.length_map, Nat.mul_one]) hn⟩
/-- one row of one op -/
theorem RowsOwn.one (w : World) (o : Ir.Op) : RowsOwn ((w.alloc (.cells (opC o) 35)).alloc (.cells #[.slice (some ⟨w.heap.size, 0, none⟩) 1 1] 36)) 0 (.slice (some ⟨w.heap.size + 1, 0, none⟩) 1 1) [[o]] := by
  have h1 := owns_lit w 35 6 1 (opC o).toList rfl (by omega)
  have h2 := owns_lit (w.alloc (.cells (opC o) 35)) 36 1 1 [.slice (some ⟨w.heap.size, 0, none⟩) 1 1] rfl (by omega)
  rw [nblk_alloc] at h2
  refine ⟨[.slice (some ⟨w.heap.size, 0, none⟩) 1 1], rfl, h2, fun j hj => ?_⟩
  obtain rfl : j = 0 := by
    have : j < 1 := hj
    omega
  refine OpsOwn.keepS (w := w.alloc (.cells (opC o) 35)) ⟨some ⟨w.heap.size, 0, none⟩, 1, rfl, ?_⟩ ((Keeps.refl (fun _ => False) _).alloc _) (fun _ _ h => h)
  show World.ownsRow _ 0 _ 6 _ 1 (opsL [o])
  rw [show opsL [o] = (opC o).toList by simp [opsL]]
  simpa using h1
end Go.Proofs.YtlmnmncdoiealaaDoor
