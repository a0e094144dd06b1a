
/- The walk of slices.DeleteFunc over kept plans. -/
import Derived.Test.YtlmnmncdoiealaaGreatDoorKeepF
namespace Go.Proofs.YtlmnmncdoiealaaGreatDoor
open Go.RowKit Go.Deep
set_option linter.unusedVariables false
set_option linter.unusedSimpArgs false

theorem cell_atK {w : World} {b : Nat} {cs : Array Value} {T : TypeId} {v : Value} (h : w.heap[b]? = some (.cells cs T (0, 0))) (i : Nat) (e : cs[i]? = some v := by rfl) : w.cell? ⟨b, i, none⟩ = some v := by
  unfold World.cell?
  rw [h]
  exact e
theorem zeroK_len (zs : Array Value) (h : zs.size = 4) (m : Nat) : (Builtin.zeroCells zs m).toList.length = m * 4 := by
  unfold Builtin.zeroCells
  simp [h]
theorem zeroK_one (zs : Array Value) (h : ∀ i, i < zs.size → (zs[i]!).oneCell' = true) (hs : zs.size = 4) (m : Nat) : ∀ v ∈ (Builtin.zeroCells zs m).toList, v.oneCell' = true := by
  intro v hv
  unfold Builtin.zeroCells at hv
  simp only [Array.toList_map, Array.toList_range, List.mem_map, List.mem_range] at hv
  obtain ⟨i, _, rfl⟩ := hv
  exact h _ (Nat.mod_lt _ (by omega))
def kZ : Array Value := #[.int .u32 0, .int .i64 0, .slice none 0 0, .slice none 0 0]
theorem run_clear_k (w : World) (ty : TypeId) (g o m c : Nat) (cur : Array Value) (hg : w.heap[g]? = some (.cells cur 77 (0, 0))) (hfit : o + (m + 1) * 4 ≤ cur.size) :
    (Builtin.clear_ #[65] ty #[.slice (some ⟨g, o, none⟩) (m + 1) c]).run Tryz.prog w = .ok (.tuple #[]) (w.setRow g (cur.toList.take o ++ (Builtin.zeroCells kZ (m + 1)).toList ++ cur.toList.drop (o + (m + 1) * 4)).toArray) := by
  have hz : ∀ w, (zeroValue 77).run Tryz.prog w = .ok (.agg kZ) w := fun w => by kernel_rfl
  have hlen := zeroK_len kZ rfl (m + 1)
  have hst := run_storeCells_at Tryz.prog g o 77 (Builtin.zeroCells kZ (m + 1)).toList 0 cur w hg (by rw [hlen]; omega) (zeroK_one kZ (fun i hi => by
    have hi : i < 4 := hi
    rcases (show i = 0 ∨ i = 1 ∨ i = 2 ∨ i = 3 by omega) with rfl | rfl | rfl | rfl <;> rfl) rfl (m + 1))
  rw [hlen] at hst
  simp only [Nat.add_zero] at hst
  have hc : (Value.agg kZ).cells = kZ := rfl
  simp [Builtin.clear_, run_underlying Tryz.underlying65, hz, hc, hst]
/-- the tail is wiped, the head is kept -/
theorem KOwn.wipe {w : World} {B g cap n : Nat} {l r : List K4} (h : KOwn w B (l ++ r) (.slice (some ⟨g, 0, none⟩) n cap)) : ∃ cur, w.heap[g]? = some (.cells cur 77 (0, 0)) ∧ l.length * 4 + r.length * 4 ≤ cur.size ∧ l.length + r.length ≤ cap ∧
    ∀ Z : List Value, Z.length = r.length * 4 → KOwn (w.setRow g (cur.toList.take (l.length * 4) ++ Z ++ cur.toList.drop (l.length * 4 + r.length * 4)).toArray) B l (.slice (some ⟨g, 0, none⟩) l.length cap) ∧ Keeps (· = g) w (w.setRow g (cur.toList.take (l.length * 4) ++ Z ++ cur.toList.drop (l.length * 4 + r.length * 4)).toArray) := by
  obtain ⟨A, c, e, hl, ⟨h2, _⟩ | ⟨g2, cap', cur, h2, h3, h4, h5, h6, h7, h8⟩⟩ := h
  · cases h2
  injection h2 with e1 e2 e3
  injection e1 with e1
  injection e1 with e1
  subst e1 e3
  rw [List.length_append] at h5 h8
  refine ⟨cur, h4, by rw [h7]; omega, h5, fun Z hZ => ⟨⟨_, _, rfl, by rw [kL_len], .inr ⟨g, cap, _, rfl, h3, setRow_heap w g cur _ _ _ h4, by omega, h6, ?_, ?_⟩⟩, (Keeps.refl (· = g) w).setRow (fun _ => rfl) _⟩⟩
  · simp only [List.size_toArray, List.length_append, List.length_take, List.length_drop, Array.length_toList, h7, hZ]
    omega
  · have h9 := congrArg (List.take (l.length * 4)) h8
    rw [List.take_take, Nat.min_eq_left (by omega), kL_take (l ++ r) l.length (by simp), List.take_left] at h9
    have e : (cur.toList.take (l.length * 4)).length = l.length * 4 := by
      rw [List.length_take, show cur.toList.length = cap * 4 from h7]
      omega
    simp only [List.append_assoc]
    rw [List.take_append_of_le_length (Nat.le_of_eq e.symm), List.take_take, Nat.min_self, h9]
def npK (p : K4 → Bool) (l : List K4) : List K4 := l.filter fun k => !p k
theorem npK_step (p : K4 → Bool) (l : List K4) (j : Nat) (h : j < l.length) : npK p (l.take (j + 1)) = if p (l.getD j k40) = true then npK p (l.take j) else npK p (l.take j) ++ [l.getD j k40] := by
  rw [take_getD l j h k40]
  unfold npK
  rw [List.filter_append]
  generalize l.getD j k40 = k
  cases hp : p k <;> simp [hp]
theorem npK_none (p : K4 → Bool) (l : List K4) (i : Nat) (h : ∀ j, j < i → p (l.getD j k40) = false) : ∀ m, m ≤ i → m ≤ l.length → npK p (l.take m) = l.take m
  | 0, _, _ => by simp [npK]
  | m + 1, h1, h2 => by
    rw [npK_step p l m (by omega), h m (by omega), npK_none p l i h m (by omega) (by omega), take_getD l m (by omega) k40]
    rfl
/-- what DeleteFunc answers -/
def DelIs (p : K4 → Bool) (l : List K4) (B : Nat) (G : Option Nat) (T : Nat → Prop) (St : List K4 → World → Prop) (w : World) (e : Ending) (w' : World) : Prop :=
  ∃ v, e = .returned v ∧ KOwn w' B (npK p l) v ∧ v.ownBlock = G ∧ St l w' ∧ Keeps (fun b => T b ∨ G = some b) w w'
theorem set_mid {α : Type} (F : List α) (a k : α) (t R : List α) : (F ++ (a :: t) ++ R).set F.length k = F ++ (k :: t) ++ R := by
  rw [List.append_assoc, List.set_append_right _ _ (Nat.le_refl _), Nat.sub_self, List.append_assoc]
  rfl
theorem KOwn.frozenAt {w : World} {B g n cap : Nat} {l : List K4} (h : KOwn w B l (.slice (some ⟨g, 0, none⟩) n cap)) (j : Nat) : w.frozen? ⟨g, j, none⟩ = false := by
  obtain ⟨A, c, e, ho⟩ := h
  injection e with e1 e2 e3
  subst e1 e2 e3
  exact ho.frozenAt j
set_option maxHeartbeats 4000000 in
set_option maxRecDepth 100000 in
theorem deleteK_any (f : Nat) (lb : Array Value) (p : K4 → Bool) (S : World → Nat → Prop) (T : Nat → Prop) (St : List K4 → World → Prop) (eg : ∀ args w, (callFunc f args).run Tryz.prog w = .ok (.enter f args) w) (B : Nat) (A : Option Addr) (n cap : Nat) (l : List K4) (w : World) (V : KOwn w B l (.slice A n cap)) (hl : l.length = n) (hn : n ≤ 1000000)
    (hp : PredK f lb p l S St) (h0 : St [] w) (hT : ∀ done W b, St done W → S W b → T b ∨ w.heap.size ≤ b) (hq : ∀ done W W', (∀ q, (Value.slice A n cap).ownBlock = some q → ∃ cs, W.heap[q]? = some (.cells cs 77 (0, 0))) → Keeps (fun b => (Value.slice A n cap).ownBlock = some b) W W' → St done W → St done W') :
    Calls Tryz.prog 29 #[.slice A n cap, .func (.func f) #[] lb] w (DelIs p l B (Value.slice A n cap).ownBlock T St w) := by
  have HL := Lib.hid hl
  have HP := Lib.hid hp
  have HQ := Lib.hid hq
  have HTT := Lib.hid hT
  have HIX := Lib.hid (indexK_any f lb p S T St eg B A n cap l w V hl hn hp h0 hT)
  obtain ⟨G, hG⟩ : ∃ G, (Value.slice A n cap).ownBlock = G := ⟨_, rfl⟩
  have HG := Lib.hid hG
  have HANS := Lib.hid (fun (e : Ending) (w' : World) (h : ∃ v, e = .returned v ∧ KOwn w' B (npK p l) v ∧ v.ownBlock = G ∧ St l w' ∧ Keeps (fun b => T b ∨ G = some b) w w') => (show DelIs p l B G T St w e w' from h))
  rw [hG] at HQ ⊢
  clear V hl hp h0 hT hq hG
  go_enter Tryz.func29, Tryz.ntmps29
  go_wp2_with fail
  refine HIX.out.mono ?_
  rintro e w2 (⟨i, hil, hpi, hni, rfl, ht2, ho2, hk2⟩ | ⟨hno, rfl, ht2, ho2, hk2⟩)
  · have hin : i < n := by rw [HL.out] at hil; exact hil
    have HV2 := Lib.hid ho2
    obtain ⟨g, go, cg, hvg, hgo, _⟩ := ho2.get (i := i) hil
    rw [HL.out] at hvg
    injection hvg with e1 e2 e3
    subst e1 e3 hgo
    have HGG := Lib.hid (show G = some g from HG.out.symm)
    have HLT := Lib.hid (npK_none p l i hni i (Nat.le_refl _) (by omega))
    have HSTEP := Lib.hid (fun j h => npK_step p l j h)
    have HST2 := Lib.hid ht2
    have HK2 := Lib.hid (hk2.mono (T := fun b => T b ∨ G = some b) (fun _ _ h => .inl h))
    have HPI := Lib.hid (And.intro hpi hil)
    clear hpi hni ht2 hk2 hil ho2
    have hne : ((i : Int) == -1) = false := by rw [beq_eq_false_iff_ne]; omega
    go_wp2_with fail
    go_loopw [5, 6] (fun s5 s6 wr => ∃ i j : Nat, i < j ∧ j ≤ n ∧ s5 = .int .i64 i ∧ s6 = .int .i64 j ∧ (∃ mid : List K4, mid.length = j - i ∧ (npK p (l.take j)).length = i ∧ KOwn wr B (npK p (l.take j) ++ mid ++ l.drop j) (.slice (some ⟨g, 0, none⟩) n cap)) ∧ St (l.take j) wr ∧ Keeps (fun b => T b ∨ G = some b) w wr) (fun _ s6 _ => n - (intOf s6).toNat)
    case atStart =>
      refine ⟨i, i + 1, by omega, by omega, rfl, by go_num, ⟨[l.getD i k40], by simp, ?_, ?_⟩, HST2.out, HK2.out⟩
      · rw [HSTEP.out i HPI.out.2, if_pos HPI.out.1, HLT.out, List.length_take]
        have := HPI.out.2
        omega
      · rw [HSTEP.out i HPI.out.2, if_pos HPI.out.1, HLT.out, ← take_getD l i HPI.out.2 k40, List.take_append_drop]
        exact HV2.out
    case round =>
      obtain ⟨i2, j, hij, hj, rfl, rfl, ⟨mid, hmid, hlen, hO⟩, hT, hK⟩ := hrel
      have HMID := Lib.hid hmid
      have HLEN := Lib.hid hlen
      have HO := Lib.hid hO
      have HT := Lib.hid hT
      have HK := Lib.hid hK
      clear hmid hlen hO hT hK
      by_cases hlt : j < n
      · have hjl : j < l.length := by rw [HL.out]; exact hlt
        have hj63 : (j : Int) < n := by omega
        have HDR := Lib.hid (show l.drop j = l.getD j k40 :: l.drop (j + 1) by
          rw [List.drop_eq_getElem_cons hjl, List.getD_eq_getElem?_getD, List.getElem?_eq_getElem hjl]
          rfl)
        have HTK := Lib.hid (take_getD l j hjl k40)
        have HSJ := Lib.hid (HSTEP.out j hjl)
        have HTOT := Lib.hid (show (npK p (l.take j) ++ mid ++ l.drop j).length = n by
          rw [List.length_append, List.length_append, HLEN.out, HMID.out, List.length_drop, HL.out]
          omega)
        have HGJ := Lib.hid (show (npK p (l.take j) ++ mid ++ l.drop j).getD j k40 = l.getD j k40 by
          rw [HDR.out, List.getD_eq_getElem?_getD, List.getElem?_append_right (by rw [List.length_append, HLEN.out, HMID.out]; omega), List.length_append, HLEN.out, HMID.out, show j - (i2 + (j - i2)) = 0 by omega]
          rfl)
        obtain ⟨g', go, cg', hvg, hgo, hcell⟩ := HO.out.get (i := j) (by rw [HTOT.out]; exact hlt)
        injection hvg with e1 e2 e3
        injection e1 with e1
        injection e1 with e1 e4 _
        subst e1 e3 e4
        clear e2 hgo
        rw [HGJ.out] at hcell
        have HMEM := Lib.hid (getD_memK hjl)
        have HTL := Lib.hid (show (l.take j).length < l.length by rw [List.length_take]; omega)
        obtain ⟨k, hk⟩ : ∃ k, l.getD j k40 = k := ⟨_, rfl⟩
        rw [hk] at hcell HTK HSJ HDR HMEM
        clear hk hjl
        have e0 : wr.cell? ⟨g, j * 4, none⟩ = some (.int .u32 k.pc) := by simpa using hcell 0 (.int .u32 k.pc) (by omega) rfl
        have e1 : wr.cell? ⟨g, j * 4 + 1, none⟩ = some (.int .i64 k.many) := by simpa using hcell 1 (.int .i64 k.many) (by omega) rfl
        have e2 : wr.cell? ⟨g, j * 4 + 2, none⟩ = some (.slice k.A k.n k.c) := by simpa using hcell 2 (.slice k.A k.n k.c) (by omega) rfl
        have e3 : wr.cell? ⟨g, j * 4 + 3, none⟩ = some (.slice k.P k.pn k.pcap) := by simpa using hcell 3 (.slice k.P k.pn k.pcap) (by omega) rfl
        clear hcell
        have HXB := Lib.hid (blk_alloc_new wr (.cells #[.int .u32 k.pc, .int .i64 k.many, .slice k.A k.n k.c, .slice k.P k.pn k.pcap] 77))
        have HXK := Lib.hid ((Keeps.refl (fun _ => False) wr).alloc (.cells #[.int .u32 k.pc, .int .i64 k.many, .slice k.A k.n k.c, .slice k.P k.pn k.pcap] 77))
        go_upto_region 8 with fail
        have HO1 := Lib.hid (HO.out.quiet HXK.out)
        have HT1 := Lib.hid (HP.out.quiet _ _ _ HXK.out HT.out)
        have HK1 := Lib.hid (HK.out.trans (HXK.out.mono (T := fun b => T b ∨ G = some b) (fun _ _ h => h.elim)) (fun _ _ h => h))
        clear HXK HO HT HK e0 e1 e2 e3
        generalize wr.alloc _ = w3 at *
        generalize wr.heap.size = x at *
        have x0 := cell_atK HXB.out 0
        have x1 := cell_atK HXB.out 1
        have x2 := cell_atK HXB.out 2
        have x3 := cell_atK HXB.out 3
        have HCA := Lib.hid (HP.out.call (l.take j) k w3 HMEM.out HTL.out HT1.out)
        have HNS := Lib.hid (show (∀ q, (Value.slice (some ⟨g, 0, none⟩) n cap).ownBlock = some q → ¬ S w3 q) ∧ ¬ S w3 x from ⟨fun q hq => by
          obtain ⟨cs, h⟩ := HO1.out.typed q hq
          exact HP.out.ty _ _ _ _ _ HT1.out h, HP.out.ty _ _ _ _ _ HT1.out HXB.out⟩)
        have HTB := Lib.hid (fun b (h : S w3 b) => HTT.out _ _ b HT1.out h)
        obtain ⟨pv, hpv⟩ : ∃ b, p k = b := ⟨_, rfl⟩
        rw [hpv] at HCA HSJ
        clear hpv
        unfold kC at HCA
        go_wp2_with fail
        refine HCA.out.mono ?_
        rintro e w5 ⟨rfl, hs5, hk5⟩
        have HT5 := Lib.hid (show St (l.take (j + 1)) w5 by rw [HTK.out]; exact hs5)
        have HO5 := Lib.hid (HO1.out.keep hk5 HNS.out.1)
        have HK5 := Lib.hid (show Keeps (fun b => T b ∨ G = some b) w w5 from HK1.out.trans hk5 (fun b hb h => (HTB.out b h).elim .inl (fun h => absurd hb (Nat.not_lt.2 h))))
        have HX5 := Lib.hid (show w5.cell? ⟨x, 0, none⟩ = some (.int .u32 k.pc) ∧ w5.cell? ⟨x, 1, none⟩ = some (.int .i64 k.many) ∧ w5.cell? ⟨x, 2, none⟩ = some (.slice k.A k.n k.c) ∧ w5.cell? ⟨x, 3, none⟩ = some (.slice k.P k.pn k.pcap) from ⟨hk5.cell' x0 HNS.out.2, hk5.cell' x1 HNS.out.2, hk5.cell' x2 HNS.out.2, hk5.cell' x3 HNS.out.2⟩)
        clear hs5 hk5 x0 x1 x2 x3 HO1 HT1 HK1 HNS HTB HCA HXB
        cases pv
        case true =>
          have HO6 := Lib.hid (show KOwn w5 B (npK p (l.take (j + 1)) ++ (mid ++ [k]) ++ l.drop (j + 1)) (.slice (some ⟨g, 0, none⟩) n cap) by
            rw [HSJ.out, if_pos rfl]
            have := HO5.out
            rw [HDR.out] at this
            simpa using this)
          have HL6 := Lib.hid (show (npK p (l.take (j + 1))).length = i2 by rw [HSJ.out, if_pos rfl]; exact HLEN.out)
          go_wp2_with fail
          go_roundw
          case rel => exact ⟨i2, j + 1, by omega, by omega, rfl, by go_num, ⟨mid ++ [k], by rw [List.length_append, HMID.out, List.length_singleton]; omega, HL6.out, HO6.out⟩, HT5.out, HK5.out⟩
          case measure => simp [intOf]; omega
        case false =>
          obtain ⟨x0, x1, x2, x3⟩ := HX5.out
          cases hm : mid with
          | nil =>
            have := HMID.out
            rw [hm] at this
            simp at this
            omega
          | cons m0 mt =>
            have HMT := Lib.hid (show mt.length + 1 = j - i2 by have := HMID.out; rw [hm] at this; exact this)
            rw [hm] at HO5 HTOT
            have hi2 : i2 < (npK p (l.take j) ++ (m0 :: mt) ++ l.drop j).length := by rw [HTOT.out]; omega
            have HST := Lib.hid (HO5.out.set i2 hi2 k)
            obtain ⟨g', go, cg', hvg, hgo, hcell⟩ := HO5.out.get (i := i2) hi2
            injection hvg with e1 e2 e3
            injection e1 with e1
            injection e1 with e1 e4 _
            subst e1 e3 e4
            clear e2 hgo
            obtain ⟨k2, hk2⟩ : ∃ z, (npK p (l.take j) ++ (m0 :: mt) ++ l.drop j).getD i2 k40 = z := ⟨_, rfl⟩
            rw [hk2] at hcell
            have e0 : w5.cell? ⟨g, i2 * 4, none⟩ = some (.int .u32 k2.pc) := by simpa using hcell 0 (.int .u32 k2.pc) (by omega) rfl
            have e1 : w5.cell? ⟨g, i2 * 4 + 1, none⟩ = some (.int .i64 k2.many) := by simpa using hcell 1 (.int .i64 k2.many) (by omega) rfl
            have e2 : w5.cell? ⟨g, i2 * 4 + 2, none⟩ = some (.slice k2.A k2.n k2.c) := by simpa using hcell 2 (.slice k2.A k2.n k2.c) (by omega) rfl
            have e3 : w5.cell? ⟨g, i2 * 4 + 3, none⟩ = some (.slice k2.P k2.pn k2.pcap) := by simpa using hcell 3 (.slice k2.P k2.pn k2.pcap) (by omega) rfl
            have hfz := fun q => HO5.out.frozenAt q
            have HI2 := Lib.hid hi2
            clear hcell hk2 hm hi2
            have hi63 : (i2 : Int) < n := by omega
            go_upto_region 10 with fail
            clear e0 e1 e2 e3 x0 x1 x2 x3 hfz
            have HO6 := Lib.hid (show KOwn ((((w5.setCell ⟨g, i2 * 4, none⟩ (.int .u32 k.pc)).setCell ⟨g, i2 * 4 + 1, none⟩ (.int .i64 k.many)).setCell ⟨g, i2 * 4 + 2, none⟩ (.slice k.A k.n k.c)).setCell ⟨g, i2 * 4 + 3, none⟩ (.slice k.P k.pn k.pcap)) B (npK p (l.take (j + 1)) ++ (mt ++ [k]) ++ l.drop (j + 1)) (.slice (some ⟨g, 0, none⟩) n cap) by
              have h := HST.out.1
              rw [show (npK p (l.take j) ++ (m0 :: mt) ++ l.drop j).set i2 k = npK p (l.take j) ++ (k :: mt) ++ l.drop j by
                rw [← HLEN.out]; exact set_mid _ _ _ _ _, HDR.out] at h
              rw [HSJ.out, if_neg (by decide)]
              simpa using h)
            have hk6 := HST.out.2
            have HK6 := Lib.hid (HK5.out.trans hk6 (fun b hb e => .inr (by have e : b = g := e; rw [e]; exact HGG.out)))
            have HT6 := Lib.hid (HQ.out _ _ _ (by rw [← HG.out]; exact HO5.out.typed) (hk6.mono (T := fun b => G = some b) (fun b _ e => by have e : b = g := e; rw [e]; exact HGG.out)) HT5.out)
            have HL6 := Lib.hid (show (npK p (l.take (j + 1))).length = i2 + 1 by rw [HSJ.out, if_neg (by decide), List.length_append, HLEN.out]; rfl)
            clear hk6
            generalize World.setCell (World.setCell (World.setCell (World.setCell w5 _ _) _ _) _ _) _ _ = w6 at *
            go_wp2_with fail
            go_roundw
            case rel => exact ⟨i2 + 1, j + 1, by omega, by omega, by go_num, by go_num, ⟨mt ++ [k], by rw [List.length_append, List.length_singleton]; have := HMT.out; omega, HL6.out, HO6.out⟩, HT6.out, HK6.out⟩
            case measure => simp [intOf]; omega
      · obtain rfl : j = n := by omega
        have HEND := Lib.hid (show KOwn wr B (npK p l ++ mid) (.slice (some ⟨g, 0, none⟩) j cap) ∧ (npK p l).length = i2 ∧ St l wr by
          have h1 := HO.out
          have h2 := HLEN.out
          have h3 := HT.out
          rw [List.take_of_length_le (by rw [HL.out]; exact Nat.le_refl _)] at h1 h2 h3
          rw [List.drop_eq_nil_of_le (by rw [HL.out]; exact Nat.le_refl _), List.append_nil] at h1
          exact ⟨h1, h2, h3⟩)
        obtain ⟨cur, hcur, hfit, hcap, hZ⟩ := HEND.out.1.wipe
        rw [HEND.out.2.1, HMID.out] at hfit hcap hZ
        obtain ⟨mm, hmm⟩ : ∃ m, j - i2 = m + 1 := ⟨j - i2 - 1, by omega⟩
        have hw := hZ (Builtin.zeroCells kZ (mm + 1)).toList (by rw [zeroK_len kZ rfl, hmm])
        have hcl : ∀ ty, (Builtin.clear_ #[65] ty #[.slice (some ⟨g, i2 * 4, none⟩) (j - i2) (cap - i2)]).run Tryz.prog wr = .ok (.tuple #[]) (wr.setRow g (cur.toList.take (i2 * 4) ++ (Builtin.zeroCells kZ (mm + 1)).toList ++ cur.toList.drop (i2 * 4 + (j - i2) * 4)).toArray) := fun ty => by
          rw [hmm]
          exact run_clear_k wr ty g (i2 * 4) mm (cap - i2) cur hcur (by rw [← hmm]; exact hfit)
        obtain ⟨cur2, hc2⟩ : ∃ c : Array Value, c = (cur.toList.take (i2 * 4) ++ (Builtin.zeroCells kZ (mm + 1)).toList ++ cur.toList.drop (i2 * 4 + (j - i2) * 4)).toArray := ⟨_, rfl⟩
        rw [← hc2] at hw
        simp only [← hc2] at hcl
        clear hc2
        have HW := Lib.hid hw
        have hic : i2 ≤ cap := by omega
        have hij2 : i2 ≤ j := by omega
        have HQ2 := Lib.hid (HQ.out _ _ _ (by rw [← HG.out]; exact HEND.out.1.typed) (hw.2.mono (T := fun b => G = some b) (fun b _ e => by have e : b = g := e; rw [e]; exact HGG.out)) HEND.out.2.2)
        have HKF := Lib.hid (HK.out.trans hw.2 (fun b hb e => .inr (by have e : b = g := e; rw [e]; exact HGG.out)))
        clear hw hZ hcur hfit hmm
        go_wp2_with fail
        go_ret
        exact HANS.out _ _ ⟨_, rfl, HW.out.1, HGG.out.symm, HQ2.out, HKF.out⟩
  · have HE := Lib.hid (show npK p l = l by
      have := npK_none p l l.length hno l.length (Nat.le_refl _) (Nat.le_refl _)
      rwa [List.take_of_length_le (Nat.le_refl _)] at this)
    have HV2 := Lib.hid ho2
    have HST2 := Lib.hid ht2
    have HK2 := Lib.hid (hk2.mono (T := fun b => T b ∨ G = some b) (fun _ _ h => .inl h))
    clear hno ht2 hk2 ho2
    go_wp2_with fail
    go_ret
    exact HANS.out _ _ ⟨_, rfl, by rw [HE.out]; exact HV2.out, HG.out, HST2.out, HK2.out⟩
end Go.Proofs.YtlmnmncdoiealaaGreatDoor
