import Derived.Test.YtlmnmncdoiealaaGreatDoorKaz22
import Derived.Test.YtlmnmncdoiealaaGreatDoorKaz17

/- RkPages -/
/- The walk of the reference's Pages. -/
namespace Go.Proofs.YtlmnmncdoiealaaGreatDoor
open Go.RowKit Go.Deep
set_option linter.unusedVariables false
set_option linter.unusedSimpArgs false

/-- the pages seen at a place -/
def seenP (L : List KQ) (i : Nat) (ps : List Int) (j : Nat) : List Int := (L.take i).flatMap (·.2) ++ ps.take j
theorem seenP_next (L : List KQ) (i : Nat) (ps : List Int) (j : Nat) (h : j < ps.length) : insAll (seenP L i ps (j + 1)) = insU (insAll (seenP L i ps j)) (ps.getD j 0) := by
  unfold seenP
  rw [take_getD ps j h 0, ← List.append_assoc, insAll_snoc]
theorem IOwn.atU {w : World} {B : Nat} {l : List Int} {A : Option Addr} {n cap : Nat} (h : IOwn w B l (.slice A n cap)) {i : Nat} (hi : i < n) : ∃ b o, A = some ⟨b, o, none⟩ ∧ w.cell? ⟨b, o + i, none⟩ = some (.int .i64 (l.getD i 0)) := by
  obtain ⟨h1, h2 | ⟨b, o, h5, h6, h7⟩⟩ := h.reads.2.2
  · omega
  · exact ⟨b, o, h5, h7 i hi⟩
theorem IOwn.baseU {w : World} {B B' : Nat} {l : List Int} {v : Value} (h : IOwn w B l v) (hb : B' ≤ B) : IOwn w B' l v := by
  obtain ⟨A, cap, rfl, h1, h2⟩ := h
  refine ⟨A, cap, rfl, h1, ?_⟩
  rcases h2 with h | ⟨g, cap, cur, h1, h2, h3⟩
  · exact .inl h
  · exact .inr ⟨g, cap, cur, h1, Nat.le_trans hb h2, h3⟩
theorem iown_one (w : World) (y : Int) : IOwn (w.alloc (.cells #[.int .i64 y] 3)) 0 [y] (.slice (some ⟨w.heap.size, 0, none⟩) 1 1) :=
  ⟨_, 1, rfl, rfl, .inr ⟨w.heap.size, 1, #[.int .i64 y], rfl, Nat.zero_le _, blk_alloc_new _ _, Nat.le_refl _, by unfold maxLen; omega, rfl, rfl⟩⟩
theorem IOwn.lowU2 {w : World} {B : Nat} {l : List Int} {v : Value} (h : IOwn w B l v) : ∀ g, v.ownBlock = some g → B ≤ g := fun g hg => by
  obtain ⟨A, cap, rfl, ho⟩ := h
  exact (ho.lt g hg).1
theorem IOwn.lowU {w : World} {B : Nat} {l : List Int} {v : Value} (h : IOwn w B l v) : ∀ g, v.ownBlock = some g → g < w.heap.size := fun g hg => by
  obtain ⟨A, cap, rfl, ho⟩ := h
  exact (ho.lt g hg).2
theorem IOwn.addrU {w : World} {B : Nat} {l : List Int} {a : Addr} {n cap : Nat} (h : IOwn w B l (.slice (some a) n cap)) : ∃ ob oo, a = ⟨ob, oo, none⟩ := by
  obtain ⟨A, c, e, hl, ⟨h2, _⟩ | ⟨g, cap', cur, h2, _⟩⟩ := h
  · cases h2
  · injection h2 with e1 e2 e3
    injection e1 with e1
    exact ⟨g, 0, e1⟩
theorem IOwn.offU {w : World} {B : Nat} {l : List Int} {ob oo n cap : Nat} (h : IOwn w B l (.slice (some ⟨ob, oo, none⟩) n cap)) : oo = 0 := by
  obtain ⟨A, c, e, hl, ⟨h2, _⟩ | ⟨g, cap', cur, h2, _⟩⟩ := h
  · cases h2
  · injection h2 with e1 e2 e3
    injection e1 with e1
    injection e1 with _ e1 _
theorem IOwn.takeU {w : World} {B : Nat} {l : List Int} {A : Option Addr} {n cap t : Nat} (h : IOwn w B l (.slice A n cap)) (ht : t ≤ n) : Reads w A t cap (fun z => .int .i64 ((l.take t).getD z 0)) ∧ t = (l.take t).length := by
  obtain ⟨h1, h2, h3, h4⟩ := h.reads
  refine ⟨⟨by omega, ?_⟩, by rw [List.length_take]; omega⟩
  rcases h4 with h4 | ⟨b, o, h5, h6, h7⟩
  · exact .inl h4
  · refine .inr ⟨b, o, h5, h6, fun i hi => ?_⟩
    rw [h7 i (by omega)]
    dsimp only
    rw [List.getD_eq_getElem?_getD, List.getD_eq_getElem?_getD, List.getElem?_take_of_lt hi]
theorem IOwn.dropU {w : World} {B : Nat} {l : List Int} {A : Option Addr} {n cap t : Nat} (h : IOwn w B l (.slice A n cap)) (ht : t ≤ n) (w' : World) (k : Keeps (fun _ => False) w w') :
    (cap = t → ∀ A' : Option Addr, Reads w' A' (n - t) (cap - t) (fun z => .int .i64 ((l.drop t).getD z 0))) ∧ (∀ b o, A = some ⟨b, o, none⟩ → Reads w' (some ⟨b, o + t, none⟩) (n - t) (cap - t) (fun z => .int .i64 ((l.drop t).getD z 0))) ∧ n - t = (l.drop t).length := by
  obtain ⟨h1, h2, h3, h4⟩ := h.reads
  refine ⟨fun e A' => ⟨by omega, .inl (by omega)⟩, fun b o hA => ⟨by omega, ?_⟩, by rw [List.length_drop, h1]⟩
  rcases h4 with h4 | ⟨b2, o2, h5, h6, h7⟩
  · exact .inl (by omega)
  · rw [hA] at h5
    injection h5 with h5
    injection h5 with e1 e2 _
    subst e1 e2
    refine .inr ⟨b, o + t, rfl, Nat.lt_of_lt_of_le h6 k.size, fun i hi => ?_⟩
    have := k.cell' (h7 (t + i) (by omega)) (fun h => h)
    rw [← Nat.add_assoc] at this
    rw [this]
    dsimp only
    rw [List.getD_eq_getElem?_getD, List.getD_eq_getElem?_getD, List.getElem?_drop]
set_option maxHeartbeats 16000000 in
set_option maxRecDepth 100000 in
theorem rkPages_any (mb : Nat) (mx : Int) (L : List KQ) (w : World) (R : RefKeep w mb mx (L.map (·.1))) (hp : ∀ q ∈ L, KqAt w q) (hl : L.length ≤ 100) (hs : ∀ q ∈ L, q.2.length ≤ 1000) :
    Calls Tryz.prog 22 #[.pointer (some ⟨mb, 0, none⟩)] w fun e w' => ∃ v, e = .returned v ∧ IOwn w' w.heap.size (insAll (L.flatMap (·.2))) v ∧ Keeps (fun _ => False) w w' := by
  obtain ⟨A, n, cap, hb, hr⟩ := R.box
  have HB := Lib.hid hb
  have HR := Lib.hid hr
  have HPG := Lib.hid hp
  have HLE := Lib.hid (show L.length = n from by have := hr.len; rwa [List.length_map] at this)
  have hnc := hr.le
  have hnb : n ≤ 100 := by have := HLE.out; omega
  have HNB := Lib.hid hnb
  have HSH := Lib.hid hs
  have HSL := Lib.hid (fun i => show ((L.take i).flatMap (·.2)).length ≤ 100000 from by
    have key : ∀ (M : List KQ), (∀ q ∈ M, q.2.length ≤ 1000) → (M.flatMap (·.2)).length ≤ M.length * 1000 := by
      intro M
      induction M with
      | nil => intro _; simp
      | cons q r ih =>
        intro h
        have h1 := h q (by simp)
        have h2 := ih (fun x hx => h x (by simp [hx]))
        rw [List.flatMap_cons, List.length_append, List.length_cons, Nat.add_mul]
        omega
    have h1 := key (L.take i) (fun q hq => hs q (List.mem_of_mem_take hq))
    have h2 : (L.take i).length ≤ 100 := by rw [List.length_take]; omega
    have h3 : (L.take i).length * 1000 ≤ 100 * 1000 := Nat.mul_le_mul_right _ h2
    omega)
  obtain ⟨B, hB⟩ : ∃ B, w.heap.size = B := ⟨_, rfl⟩
  have HBE := Lib.hid hB
  rw [hB]
  clear hb hr R hl hp hB hs
  go_enter Tryz.func22, Tryz.ntmps22
  go_wp2_with fail
  go_loopw [3, 4] (fun s3 s4 wr => ∃ i : Nat, i ≤ n ∧ s4 = .int .i64 i ∧ IOwn wr B (insAll ((L.take i).flatMap (·.2))) s3 ∧ Keeps (fun _ => False) w wr) (fun _ s4 _ => n - (intOf s4).toNat)
  case atStart => exact ⟨0, by omega, rfl, IOwn.nil _ _, Keeps.refl _ _⟩
  case round =>
    obtain ⟨i, hi, rfl, hO, hK⟩ := hrel
    have HO := Lib.hid hO
    have HK := Lib.hid hK
    clear hO hK
    have c0 : wr.cell? ⟨mb, 1, none⟩ = some (.slice A n cap) := HK.out.cell' (cell_atK HB.out 1) (fun h => h)
    by_cases hlt : i < n
    · have hil : i < L.length := by rw [HLE.out]; exact hlt
      have hi63 : (i : Int) < n := by omega
      have HTK := Lib.hid (take_getD L i hil kq0)
      have HKQ := Lib.hid (HPG.out _ (kq_mem hil))
      have HS1 := Lib.hid (HSH.out _ (kq_mem hil))
      have HCL := Lib.hid (fun w' (k : Keeps (fun _ => False) w w') => (HR.out.quiet k).get hlt)
      simp only [kq_getD] at HCL
      obtain ⟨⟨k, ps⟩, hk⟩ : ∃ k, L.getD i kq0 = k := ⟨_, rfl⟩
      rw [hk] at HTK HKQ HS1 HCL
      clear hk hil
      have HPN := Lib.hid (show k.pn = ps.length from HKQ.out.2.1)
      have hpb : k.pn ≤ 9223372036854775807 := Nat.le_trans HKQ.out.1.1 HKQ.out.2.2
      have HPB := Lib.hid hpb
      have hpn1 : k.pn ≤ 1000 := by rw [HPN.out]; exact HS1.out
      have HPN1 := Lib.hid hpn1
      have HLAST := Lib.hid (show (L.take (i + 1)).flatMap (·.2) = (L.take i).flatMap (·.2) ++ ps from by rw [HTK.out, List.flatMap_append]; simp)
      go_wp2_with fail
      go_loopw [3, 5] (fun s3 s5 wi => ∃ j : Nat, j ≤ k.pn ∧ s5 = .int .i64 j ∧ IOwn wi B (insAll (seenP L i ps j)) s3 ∧ Keeps (fun _ => False) w wi) (fun _ s5 _ => k.pn - (intOf s5).toNat)
      case atStart => exact ⟨0, by omega, rfl, by unfold seenP; rw [List.take_zero, List.append_nil]; exact HO.out, HK.out⟩
      case round =>
        obtain ⟨j, hj, rfl, hO2, hK2⟩ := hrel
        have HO2 := Lib.hid hO2
        have HK2 := Lib.hid hK2
        clear hO2 hK2 c0
        have c0 : wr.cell? ⟨mb, 1, none⟩ = some (.slice A n cap) := HK2.out.cell' (cell_atK HB.out 1) (fun h => h)
        obtain ⟨b, o, rfl, hcell⟩ := HCL.out wr HK2.out
        have e3 : wr.cell? ⟨b, o + i * 4 + 3, none⟩ = some (.slice k.P k.pn k.pcap) := hcell 3 _ (by omega) rfl
        clear hcell
        by_cases hjl : j < k.pn
        · obtain ⟨pb, po, hPA0, hpj0⟩ := (HKQ.out.quiet HK2.out).at hjl
          have hPA : k.P = some ⟨pb, po, none⟩ := hPA0
          have hpj : wr.cell? ⟨pb, po + j, none⟩ = some (.int .i64 (ps.getD j 0)) := hpj0
          have HNX := Lib.hid (seenP_next L i ps j (by rw [← HPN.out]; exact hjl))
          have HOL := Lib.hid (show (insAll (seenP L i ps j)).length ≤ 200000 from by
            have h1 := (insAll_spec (seenP L i ps j)).2.2
            have h2 : (seenP L i ps j).length ≤ 100000 + 1000 := by
              unfold seenP
              rw [List.length_append, List.length_take]
              have h3 := HSL.out i
              have h4 := HPN.out
              have h5 := HPN1.out
              omega
            omega)
          obtain ⟨O, hOe⟩ : ∃ O, insAll (seenP L i ps j) = O := ⟨_, rfl⟩
          rw [hOe] at HNX HOL HO2
          obtain ⟨y, hy⟩ : ∃ y, ps.getD j 0 = y := ⟨_, rfl⟩
          rw [hy] at hpj HNX
          clear hOe hy hPA0 hpj0
          obtain ⟨A5, c5, hv5, _⟩ := id HO2.out
          obtain ⟨un, hun⟩ : ∃ z, O.length = z := ⟨_, rfl⟩
          rw [hun] at hv5
          subst hv5
          have HUN := Lib.hid hun
          have hunb : un ≤ 200000 := by rw [← hun]; exact HOL.out
          have HUB := Lib.hid hunb
          have hj63 : (j : Int) < k.pn := by omega
          rw [hPA] at e3
          clear hun
          go_wp2_with fail
          go_loopw [7] (fun s7 wi => ∃ t : Nat, t ≤ un ∧ s7 = .int .i64 t ∧ (∀ z, z < t → O.getD z 0 < y) ∧ wi = wr) (fun s7 _ => un - (intOf s7).toNat)
          case atStart => exact ⟨0, by omega, rfl, fun z hz => absurd hz (by omega), rfl⟩
          case round =>
            obtain ⟨t, ht, rfl, hZ, rfl⟩ := hrel
            have HZ := Lib.hid hZ
            clear hZ
            by_cases htl : t < un
            · obtain ⟨ob, oo, hA5, hot⟩ := HO2.out.atU htl
              subst hA5
              have HOO := Lib.hid (show oo = 0 from HO2.out.offU)
              have ht63 : (t : Int) < un := by omega
              obtain ⟨z, hz⟩ : ∃ z, O.getD t 0 = z := ⟨_, rfl⟩
              rw [hz] at hot
              have HZE := Lib.hid hz
              clear hz
              by_cases hzy : z < y
              · have tq : decide (z < y) = true := decide_eq_true hzy
                have HZ2 := Lib.hid (show ∀ q, q < t + 1 → O.getD q 0 < y from fun q hq => by
                  by_cases e : q < t
                  · exact HZ.out q e
                  · obtain rfl : q = t := by omega
                    rw [HZE.out]
                    exact hzy)
                clear hzy
                go_wp2_with fail
                go_roundw
                case rel => exact ⟨t + 1, by omega, by go_num, HZ2.out, trivial⟩
                case measure => simp [intOf]; omega
              · have tq : decide (z < y) = false := decide_eq_false hzy
                have HIN0 := Lib.hid (insU_at y O t (by rw [HUN.out]; exact ht) HZ.out (.inr (by rw [HZE.out]; exact hzy)))
                clear hzy
                cases hze : (z == y)
                · have HINS := Lib.hid (show insU O y = O.take t ++ [y] ++ O.drop t from by
                    rw [HIN0.out, if_neg (fun h => by
                      have h2 := h.2
                      rw [HZE.out] at h2
                      rw [h2] at hze
                      simp at hze)])
                  have HRT := Lib.hid (show Reads wr (some ⟨ob, oo, none⟩) t c5 (fun z => .int .i64 ((O.take t).getD z 0)) ∧ t = (O.take t).length from HO2.out.takeU ht)
                  have HRD := Lib.hid (fun w' k => HO2.out.dropU ht w' k)
                  have HNK := Lib.hid HO2.out.nilK
                  have htc : t ≤ c5 := Nat.le_trans ht (HO2.out.reads.2.2.1)
                  have huc : un ≤ c5 := HO2.out.reads.2.2.1
                  have HTB := Lib.hid (show ([] : List Int).length + t ≤ 1000000 from by have := HUB.out; first | (simp; done) | (simp; omega))
                  have HTU := Lib.hid ht
                  have HHI := Lib.hid (HO2.out.lowU)
                  obtain ⟨B2, hB2⟩ : ∃ b, wr.heap.size = b := ⟨_, rfl⟩
                  have HB2 := Lib.hid hB2
                  clear hB2
                  go_wp2_with (at_builtin; go_loud (refine wpList_append_i rfl _ _ rfl B2 [] (.slice none 0 0) rfl (IOwn.nil _ _) (some ⟨ob, oo, none⟩) t c5 (O.take t) rfl HRT.out.1 HRT.out.2 HNK.out HTB.out (by rw [HB2.out]; exact Nat.le_refl _) ?c0))
                  case c0 =>
                    intro v' w4 hown hk4
                    have HK4 := Lib.hid (show Keeps (fun _ => False) wr w4 from hk4.mono (fun b hb e => by cases e))
                    have HO4 := Lib.hid (show IOwn w4 B2 (O.take t) v' from hown)
                    clear hown hk4
                    obtain ⟨A6, c6, hv6, _⟩ := id HO4.out
                    have hl6 : (O.take t).length = t := HRT.out.2.symm
                    rw [hl6] at hv6
                    subst hv6
                    have HKA := Lib.hid ((Keeps.refl (fun _ => False) w4).alloc (.cells #[.int .i64 y] 3))
                    have HY := Lib.hid (show IOwn (w4.alloc (.cells #[.int .i64 y] 3)) 0 [y] (.slice (some ⟨w4.heap.size, 0, none⟩) 1 1) from iown_one w4 y)
                    have HOA := Lib.hid (HO4.out.keep HKA.out (fun _ _ _ _ h => h))
                    have HB4 := Lib.hid (show B2 ≤ (w4.alloc (.cells #[.int .i64 y] 3)).heap.size from by
                      have h1 := HK4.out.size
                      have h2 := HKA.out.size
                      have h3 := HB2.out
                      omega)
                    have HT6 := Lib.hid (show (O.take t).length + 1 ≤ 1000000 from by rw [hl6]; have := HUB.out; have := HTU.out; omega)
                    have HLOW6 := Lib.hid (HO4.out.lowU2)
                    go_wp2_with (at_builtin; go_loud (refine wpList_append_i rfl _ _ rfl B2 (O.take t) (.slice A6 t c6) rfl HOA.out (some ⟨w4.heap.size, 0, none⟩) 1 1 [y] rfl HY.out.reads.2.2 rfl (fun h => by cases h) HT6.out HB4.out ?c1))
                    case c1 =>
                      intro v'' w5 hown5 hk5
                      have HO5 := Lib.hid (show IOwn w5 B2 (O.take t ++ [y]) v'' from hown5)
                      have hk45 := (HKA.out.mono (T := fun b => (Value.slice A6 t c6).ownBlock = some b) (fun _ _ h => h.elim)).trans hk5 (fun _ _ h => h)
                      have HK5 := Lib.hid (show Keeps (fun _ => False) wr w5 from HK4.out.trans hk45 (fun b hb e => by
                        have h1 := HLOW6.out b e
                        have h2 := HB2.out
                        omega))
                      clear hown5 hk5 hk45
                      obtain ⟨A7, c7, hv7, _⟩ := id HO5.out
                      have hl7 : (O.take t ++ [y]).length = t + 1 := by rw [List.length_append, hl6]; rfl
                      rw [hl7] at hv7
                      subst hv7
                      have HB5 := Lib.hid (show B2 ≤ w5.heap.size from by
                        have h1 := HK5.out.size
                        have h3 := HB2.out
                        omega)
                      have HLOW7 := Lib.hid (HO5.out.lowU2)
                      have HT7 := Lib.hid (show (O.take t ++ [y]).length + (un - t) ≤ 1000000 from by rw [hl7]; have := HUB.out; have := HTU.out; omega)
                      have HRD5 := Lib.hid (HRD.out w5 HK5.out)
                      have hK5B := Lib.hid (HK2.out.trans HK5.out (fun _ _ h => h))
                      by_cases hct : c5 = t
                      · go_wp2_with (at_builtin; go_loud (refine wpList_append_i rfl _ _ rfl B2 (O.take t ++ [y]) (.slice A7 (t + 1) c7) rfl HO5.out _ _ _ (O.drop t) rfl (by have h := (show Reads w5 (some ⟨ob, oo, none⟩) (un - t) 0 (fun z => .int .i64 ((O.drop t).getD z 0)) from by have h := HRD5.out.1 hct (some ⟨ob, oo, none⟩); rw [show c5 - t = 0 from by omega] at h; exact h); first | exact h | simpa using h) (by have h := HRD5.out.2.2; first | exact h | simpa using h | (simp at h ⊢; omega)) (fun h => by first | cases h | omega) (by have h := HT7.out; first | exact h | simpa using h | (simp at h ⊢; omega)) HB5.out ?c2))
                        case c2 =>
                          intro v6 w6 hown6 hk6
                          have HO6 := Lib.hid (show IOwn w6 B (insAll (seenP L i ps (j + 1))) v6 from by
                            rw [HNX.out, HINS.out]
                            have hbb : B ≤ B2 := by
                              have h1 := HK2.out.size
                              have h2 := HB2.out
                              have h3 := HBE.out
                              omega
                            have h6 := hown6.baseU hbb
                            first | exact h6 | simpa using h6)
                          have HK6 := Lib.hid (show Keeps (fun _ => False) w w6 from hK5B.out.trans hk6 (fun b hb e => by
                            have h1 := HLOW7.out b e
                            have h2 := HB2.out
                            have h3 := HK2.out.size
                            omega))
                          clear hown6 hk6
                          go_wp2_with fail
                          go_roundw
                          case rel => exact ⟨j + 1, by omega, by go_num, HO6.out, HK6.out⟩
                          case measure => simp [intOf]; omega
                      · go_wp2_with (at_builtin; go_loud (refine wpList_append_i rfl _ _ rfl B2 (O.take t ++ [y]) (.slice A7 (t + 1) c7) rfl HO5.out _ _ _ (O.drop t) rfl (by have h := (HRD5.out.2.1 _ _ rfl); first | exact h | simpa using h) (by have h := HRD5.out.2.2; first | exact h | simpa using h | (simp at h ⊢; omega)) (fun h => by first | cases h | omega) (by have h := HT7.out; first | exact h | simpa using h | (simp at h ⊢; omega)) HB5.out ?c2))
                        case c2 =>
                          intro v6 w6 hown6 hk6
                          have HO6 := Lib.hid (show IOwn w6 B (insAll (seenP L i ps (j + 1))) v6 from by
                            rw [HNX.out, HINS.out]
                            have hbb : B ≤ B2 := by
                              have h1 := HK2.out.size
                              have h2 := HB2.out
                              have h3 := HBE.out
                              omega
                            have h6 := hown6.baseU hbb
                            first | exact h6 | simpa using h6)
                          have HK6 := Lib.hid (show Keeps (fun _ => False) w w6 from hK5B.out.trans hk6 (fun b hb e => by
                            have h1 := HLOW7.out b e
                            have h2 := HB2.out
                            have h3 := HK2.out.size
                            omega))
                          clear hown6 hk6
                          go_wp2_with fail
                          go_roundw
                          case rel => exact ⟨j + 1, by omega, by go_num, HO6.out, HK6.out⟩
                          case measure => simp [intOf]; omega
                · have HINS := Lib.hid (show insU O y = O from by
                    rw [HIN0.out, if_pos ⟨by rw [HUN.out]; exact htl, by rw [HZE.out]; exact beq_iff_eq.1 hze⟩])
                  have HO6 := Lib.hid (show IOwn wr B (insAll (seenP L i ps (j + 1))) (.slice (some ⟨ob, oo, none⟩) un c5) from by rw [HNX.out, HINS.out]; exact HO2.out)
                  clear HO2
                  go_wp2_with fail
                  go_roundw
                  case rel => exact ⟨j + 1, by omega, by go_num, HO6.out, HK2.out⟩
                  case measure => simp [intOf]; omega
            · obtain rfl : t = un := by omega
              have HINS := Lib.hid (show insU O y = O.take t ++ [y] ++ O.drop t from by
                rw [insU_at y O t (by rw [HUN.out]; exact ht) HZ.out (.inl HUN.out.symm), if_neg (fun h => by have := h.1; have := HUN.out; omega)])
              cases A5 with
              | none =>
                have hc50 : c5 = 0 := HO2.out.nilK rfl
                have hu0 : t = 0 := by have := HO2.out.reads.2.2.1; omega
                subst hc50
                subst hu0
                obtain rfl : O = [] := List.eq_nil_of_length_eq_zero HUN.out
                have HRT := Lib.hid (show Reads wr none 0 0 (fun z => .int .i64 ((([] : List Int)).getD z 0)) ∧ 0 = (([] : List Int)).length from HO2.out.takeU ht)
                have HRD := Lib.hid (fun w' k => HO2.out.dropU ht w' k)
                have HNK := Lib.hid HO2.out.nilK
                have htc : 0 ≤ 0 := Nat.le_trans ht (HO2.out.reads.2.2.1)
                have huc : 0 ≤ 0 := HO2.out.reads.2.2.1
                have HTB := Lib.hid (show ([] : List Int).length + 0 ≤ 1000000 from by have := HUB.out; first | (simp; done) | (simp; omega))
                have HTU := Lib.hid ht
                have HHI := Lib.hid (HO2.out.lowU)
                obtain ⟨B2, hB2⟩ : ∃ b, wr.heap.size = b := ⟨_, rfl⟩
                have HB2 := Lib.hid hB2
                clear hB2
                go_wp2_with (at_builtin; go_loud (refine wpList_append_i rfl _ _ rfl B2 [] (.slice none 0 0) rfl (IOwn.nil _ _) none 0 0 (([] : List Int)) rfl HRT.out.1 HRT.out.2 HNK.out HTB.out (by rw [HB2.out]; exact Nat.le_refl _) ?c0))
                case c0 =>
                  intro v' w4 hown hk4
                  have HK4 := Lib.hid (show Keeps (fun _ => False) wr w4 from hk4.mono (fun b hb e => by cases e))
                  have HO4 := Lib.hid (show IOwn w4 B2 (([] : List Int)) v' from hown)
                  clear hown hk4
                  obtain ⟨A6, c6, hv6, _⟩ := id HO4.out
                  have hl6 : (([] : List Int)).length = 0 := HRT.out.2.symm
                  rw [hl6] at hv6
                  subst hv6
                  have HKA := Lib.hid ((Keeps.refl (fun _ => False) w4).alloc (.cells #[.int .i64 y] 3))
                  have HY := Lib.hid (show IOwn (w4.alloc (.cells #[.int .i64 y] 3)) 0 [y] (.slice (some ⟨w4.heap.size, 0, none⟩) 1 1) from iown_one w4 y)
                  have HOA := Lib.hid (HO4.out.keep HKA.out (fun _ _ _ _ h => h))
                  have HB4 := Lib.hid (show B2 ≤ (w4.alloc (.cells #[.int .i64 y] 3)).heap.size from by
                    have h1 := HK4.out.size
                    have h2 := HKA.out.size
                    have h3 := HB2.out
                    omega)
                  have HT6 := Lib.hid (show (([] : List Int)).length + 1 ≤ 1000000 from by rw [hl6]; have := HUB.out; have := HTU.out; omega)
                  have HLOW6 := Lib.hid (HO4.out.lowU2)
                  go_wp2_with (at_builtin; go_loud (refine wpList_append_i rfl _ _ rfl B2 (([] : List Int)) (.slice A6 0 c6) rfl HOA.out (some ⟨w4.heap.size, 0, none⟩) 1 1 [y] rfl HY.out.reads.2.2 rfl (fun h => by cases h) HT6.out HB4.out ?c1))
                  case c1 =>
                    intro v'' w5 hown5 hk5
                    have HO5 := Lib.hid (show IOwn w5 B2 (([] : List Int) ++ [y]) v'' from hown5)
                    have hk45 := (HKA.out.mono (T := fun b => (Value.slice A6 0 c6).ownBlock = some b) (fun _ _ h => h.elim)).trans hk5 (fun _ _ h => h)
                    have HK5 := Lib.hid (show Keeps (fun _ => False) wr w5 from HK4.out.trans hk45 (fun b hb e => by
                      have h1 := HLOW6.out b e
                      have h2 := HB2.out
                      omega))
                    clear hown5 hk5 hk45
                    obtain ⟨A7, c7, hv7, _⟩ := id HO5.out
                    have hl7 : (([] : List Int) ++ [y]).length = 0 + 1 := by rw [List.length_append, hl6]; rfl
                    rw [hl7] at hv7
                    subst hv7
                    have HB5 := Lib.hid (show B2 ≤ w5.heap.size from by
                      have h1 := HK5.out.size
                      have h3 := HB2.out
                      omega)
                    have HLOW7 := Lib.hid (HO5.out.lowU2)
                    have HT7 := Lib.hid (show (([] : List Int) ++ [y]).length + (0 - 0) ≤ 1000000 from by rw [hl7]; have := HUB.out; have := HTU.out; omega)
                    have HRD5 := Lib.hid (HRD.out w5 HK5.out)
                    have hK5B := Lib.hid (HK2.out.trans HK5.out (fun _ _ h => h))
                    go_wp2_with (at_builtin; go_loud (refine wpList_append_i rfl _ _ rfl B2 (([] : List Int) ++ [y]) (.slice A7 (0 + 1) c7) rfl HO5.out none 0 0 ([] : List Int) rfl ⟨Nat.le_refl 0, .inl rfl⟩ rfl (fun _ => rfl) (by simp) HB5.out ?c2))
                    case c2 =>
                      intro v6 w6 hown6 hk6
                      have HO6 := Lib.hid (show IOwn w6 B (insAll (seenP L i ps (j + 1))) v6 from by
                        rw [HNX.out, HINS.out]
                        have hbb : B ≤ B2 := by
                          have h1 := HK2.out.size
                          have h2 := HB2.out
                          have h3 := HBE.out
                          omega
                        have h6 := hown6.baseU hbb
                        first | exact h6 | simpa using h6)
                      have HK6 := Lib.hid (show Keeps (fun _ => False) w w6 from hK5B.out.trans hk6 (fun b hb e => by
                        have h1 := HLOW7.out b e
                        have h2 := HB2.out
                        have h3 := HK2.out.size
                        omega))
                      clear hown6 hk6
                      go_wp2_with fail
                      go_roundw
                      case rel => exact ⟨j + 1, by omega, by go_num, HO6.out, HK6.out⟩
                      case measure => simp [intOf]; omega
              | some a5 =>
                obtain ⟨ob, oo, ha5⟩ : ∃ ob oo, a5 = ⟨ob, oo, none⟩ := HO2.out.addrU
                subst ha5
                have HRT := Lib.hid (show Reads wr (some ⟨ob, oo, none⟩) t c5 (fun z => .int .i64 ((O.take t).getD z 0)) ∧ t = (O.take t).length from HO2.out.takeU ht)
                have HRD := Lib.hid (fun w' k => HO2.out.dropU ht w' k)
                have HNK := Lib.hid HO2.out.nilK
                have htc : t ≤ c5 := Nat.le_trans ht (HO2.out.reads.2.2.1)
                have huc : t ≤ c5 := HO2.out.reads.2.2.1
                have HTB := Lib.hid (show ([] : List Int).length + t ≤ 1000000 from by have := HUB.out; first | (simp; done) | (simp; omega))
                have HTU := Lib.hid ht
                have HHI := Lib.hid (HO2.out.lowU)
                obtain ⟨B2, hB2⟩ : ∃ b, wr.heap.size = b := ⟨_, rfl⟩
                have HB2 := Lib.hid hB2
                clear hB2
                go_wp2_with (at_builtin; go_loud (refine wpList_append_i rfl _ _ rfl B2 [] (.slice none 0 0) rfl (IOwn.nil _ _) (some ⟨ob, oo, none⟩) t c5 (O.take t) rfl HRT.out.1 HRT.out.2 HNK.out HTB.out (by rw [HB2.out]; exact Nat.le_refl _) ?c0))
                case c0 =>
                  intro v' w4 hown hk4
                  have HK4 := Lib.hid (show Keeps (fun _ => False) wr w4 from hk4.mono (fun b hb e => by cases e))
                  have HO4 := Lib.hid (show IOwn w4 B2 (O.take t) v' from hown)
                  clear hown hk4
                  obtain ⟨A6, c6, hv6, _⟩ := id HO4.out
                  have hl6 : (O.take t).length = t := HRT.out.2.symm
                  rw [hl6] at hv6
                  subst hv6
                  have HKA := Lib.hid ((Keeps.refl (fun _ => False) w4).alloc (.cells #[.int .i64 y] 3))
                  have HY := Lib.hid (show IOwn (w4.alloc (.cells #[.int .i64 y] 3)) 0 [y] (.slice (some ⟨w4.heap.size, 0, none⟩) 1 1) from iown_one w4 y)
                  have HOA := Lib.hid (HO4.out.keep HKA.out (fun _ _ _ _ h => h))
                  have HB4 := Lib.hid (show B2 ≤ (w4.alloc (.cells #[.int .i64 y] 3)).heap.size from by
                    have h1 := HK4.out.size
                    have h2 := HKA.out.size
                    have h3 := HB2.out
                    omega)
                  have HT6 := Lib.hid (show (O.take t).length + 1 ≤ 1000000 from by rw [hl6]; have := HUB.out; have := HTU.out; omega)
                  have HLOW6 := Lib.hid (HO4.out.lowU2)
                  go_wp2_with (at_builtin; go_loud (refine wpList_append_i rfl _ _ rfl B2 (O.take t) (.slice A6 t c6) rfl HOA.out (some ⟨w4.heap.size, 0, none⟩) 1 1 [y] rfl HY.out.reads.2.2 rfl (fun h => by cases h) HT6.out HB4.out ?c1))
                  case c1 =>
                    intro v'' w5 hown5 hk5
                    have HO5 := Lib.hid (show IOwn w5 B2 (O.take t ++ [y]) v'' from hown5)
                    have hk45 := (HKA.out.mono (T := fun b => (Value.slice A6 t c6).ownBlock = some b) (fun _ _ h => h.elim)).trans hk5 (fun _ _ h => h)
                    have HK5 := Lib.hid (show Keeps (fun _ => False) wr w5 from HK4.out.trans hk45 (fun b hb e => by
                      have h1 := HLOW6.out b e
                      have h2 := HB2.out
                      omega))
                    clear hown5 hk5 hk45
                    obtain ⟨A7, c7, hv7, _⟩ := id HO5.out
                    have hl7 : (O.take t ++ [y]).length = t + 1 := by rw [List.length_append, hl6]; rfl
                    rw [hl7] at hv7
                    subst hv7
                    have HB5 := Lib.hid (show B2 ≤ w5.heap.size from by
                      have h1 := HK5.out.size
                      have h3 := HB2.out
                      omega)
                    have HLOW7 := Lib.hid (HO5.out.lowU2)
                    have HT7 := Lib.hid (show (O.take t ++ [y]).length + (t - t) ≤ 1000000 from by rw [hl7]; have := HUB.out; have := HTU.out; omega)
                    have HRD5 := Lib.hid (HRD.out w5 HK5.out)
                    have hK5B := Lib.hid (HK2.out.trans HK5.out (fun _ _ h => h))
                    by_cases hct : c5 = t
                    · go_wp2_with (at_builtin; go_loud (refine wpList_append_i rfl _ _ rfl B2 (O.take t ++ [y]) (.slice A7 (t + 1) c7) rfl HO5.out _ _ _ (O.drop t) rfl (by have h := (show Reads w5 (some ⟨ob, oo, none⟩) (t - t) 0 (fun z => .int .i64 ((O.drop t).getD z 0)) from by have h := HRD5.out.1 hct (some ⟨ob, oo, none⟩); rw [show c5 - t = 0 from by omega] at h; exact h); first | exact h | simpa using h) (by have h := HRD5.out.2.2; first | exact h | simpa using h | (simp at h ⊢; omega)) (fun h => by first | cases h | omega) (by have h := HT7.out; first | exact h | simpa using h | (simp at h ⊢; omega)) HB5.out ?c2))
                      case c2 =>
                        intro v6 w6 hown6 hk6
                        have HO6 := Lib.hid (show IOwn w6 B (insAll (seenP L i ps (j + 1))) v6 from by
                          rw [HNX.out, HINS.out]
                          have hbb : B ≤ B2 := by
                            have h1 := HK2.out.size
                            have h2 := HB2.out
                            have h3 := HBE.out
                            omega
                          have h6 := hown6.baseU hbb
                          first | exact h6 | simpa using h6)
                        have HK6 := Lib.hid (show Keeps (fun _ => False) w w6 from hK5B.out.trans hk6 (fun b hb e => by
                          have h1 := HLOW7.out b e
                          have h2 := HB2.out
                          have h3 := HK2.out.size
                          omega))
                        clear hown6 hk6
                        go_wp2_with fail
                        go_roundw
                        case rel => exact ⟨j + 1, by omega, by go_num, HO6.out, HK6.out⟩
                        case measure => simp [intOf]; omega
                    · go_wp2_with (at_builtin; go_loud (refine wpList_append_i rfl _ _ rfl B2 (O.take t ++ [y]) (.slice A7 (t + 1) c7) rfl HO5.out _ _ _ (O.drop t) rfl (by have h := (HRD5.out.2.1 _ _ rfl); first | exact h | simpa using h) (by have h := HRD5.out.2.2; first | exact h | simpa using h | (simp at h ⊢; omega)) (fun h => by first | cases h | omega) (by have h := HT7.out; first | exact h | simpa using h | (simp at h ⊢; omega)) HB5.out ?c2))
                      case c2 =>
                        intro v6 w6 hown6 hk6
                        have HO6 := Lib.hid (show IOwn w6 B (insAll (seenP L i ps (j + 1))) v6 from by
                          rw [HNX.out, HINS.out]
                          have hbb : B ≤ B2 := by
                            have h1 := HK2.out.size
                            have h2 := HB2.out
                            have h3 := HBE.out
                            omega
                          have h6 := hown6.baseU hbb
                          first | exact h6 | simpa using h6)
                        have HK6 := Lib.hid (show Keeps (fun _ => False) w w6 from hK5B.out.trans hk6 (fun b hb e => by
                          have h1 := HLOW7.out b e
                          have h2 := HB2.out
                          have h3 := HK2.out.size
                          omega))
                        clear hown6 hk6
                        go_wp2_with fail
                        go_roundw
                        case rel => exact ⟨j + 1, by omega, by go_num, HO6.out, HK6.out⟩
                        case measure => simp [intOf]; omega
        · obtain rfl : j = k.pn := by omega
          have HFIN := Lib.hid (show IOwn wr B (insAll ((L.take (i + 1)).flatMap (·.2))) _ from by
            have h := HO2.out
            unfold seenP at h
            rw [show ps.take k.pn = ps from List.take_of_length_le (by rw [HPN.out]; exact Nat.le_refl _), ← HLAST.out] at h
            exact h)
          clear HO2
          go_wp2_with fail
          go_roundw
          case rel => exact ⟨i + 1, by omega, by go_num, HFIN.out, HK2.out⟩
          case measure => simp [intOf]; omega
    · obtain rfl : i = n := by omega
      have HF := Lib.hid (show IOwn wr B (insAll (L.flatMap (·.2))) _ from by
        have := HO.out
        rwa [List.take_of_length_le (by rw [HLE.out]; exact Nat.le_refl _)] at this)
      clear HO
      go_wp2_with fail
      go_ret
      exact ⟨_, rfl, HF.out, HK.out⟩
end Go.Proofs.YtlmnmncdoiealaaGreatDoor

/- KeepV -/
/- Rows of one op, and numbers, as a literal lays them. -/
namespace Go.Proofs.YtlmnmncdoiealaaGreatDoor
open Go.RowKit Go.Deep
set_option linter.unusedVariables false
set_option linter.unusedSimpArgs false

theorem owns_lit (w : World) (e : TypeId) (size n : Nat) (xs : List Value) (hl : xs.length = n * size) (hn : n ≤ 1000000) : (w.alloc (.cells xs.toArray e)).ownsRow 0 e size (.slice (some ⟨w.heap.size, 0, none⟩) n n) n xs :=
  ⟨hl, .inr ⟨w.heap.size, n, xs.toArray, rfl, Nat.zero_le _, blk_alloc_new _ _, Nat.le_refl _, by unfold maxLen; omega, by simpa using hl, by rw [← hl]; simp⟩⟩
theorem IOwn.lit (w : World) (l : List Int) (hn : l.length ≤ 1000000) : IOwn (w.alloc (.cells (l.map fun x => Value.int .i64 x).toArray 3)) 0 l (.slice (some ⟨w.heap.size, 0, none⟩) l.length l.length) :=
  ⟨_, _, rfl, owns_lit w _ 1 l.length _ (by rw [List.length_map, Nat.mul_one]) hn⟩
/-- one row of one op -/
theorem RowsOwn.one (w : World) (o : Ir.Op) : RowsOwn ((w.alloc (.cells (opC o) 64)).alloc (.cells #[.slice (some ⟨w.heap.size, 0, none⟩) 1 1] 40)) 0 (.slice (some ⟨w.heap.size + 1, 0, none⟩) 1 1) [[o]] := by
  have h1 := owns_lit w 64 6 1 (opC o).toList rfl (by omega)
  have h2 := owns_lit (w.alloc (.cells (opC o) 64)) 40 1 1 [.slice (some ⟨w.heap.size, 0, none⟩) 1 1] rfl (by omega)
  rw [nblk_alloc] at h2
  refine ⟨[.slice (some ⟨w.heap.size, 0, none⟩) 1 1], rfl, h2, fun j hj => ?_⟩
  obtain rfl : j = 0 := by
    have : j < 1 := hj
    omega
  refine OpsOwn.keepS (w := w.alloc (.cells (opC o) 64)) ⟨some ⟨w.heap.size, 0, none⟩, 1, rfl, ?_⟩ ((Keeps.refl (fun _ => False) _).alloc _) (fun _ _ h => h)
  show World.ownsRow _ 0 _ 6 _ 1 (opsL [o])
  rw [show opsL [o] = (opC o).toList by simp [opsL]]
  simpa using h1
end Go.Proofs.YtlmnmncdoiealaaGreatDoor
