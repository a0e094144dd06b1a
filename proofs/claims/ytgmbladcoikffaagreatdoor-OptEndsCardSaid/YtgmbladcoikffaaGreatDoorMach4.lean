
/- The walk of a machine's Load. -/
import Derived.Test.YtgmbladcoikffaaGreatDoorMach3
import Derived.Test.YtgmbladcoikffaaGreatDoorPatch
import Derived.Test.YtgmbladcoikffaaGreatDoorWide
namespace Go.Proofs.YtgmbladcoikffaaGreatDoor
open Go.RowKit Go.Deep
set_option linter.unusedVariables false
set_option linter.unusedSimpArgs false

theorem wtL_get (l : List Ir.Wt) : ∀ i, (hi : i < l.length) → (wtL l)[i * 3]? = some (.int .u32 l[i].addr) ∧ (wtL l)[i * 3 + 1]? = some (.int .i64 l[i].size) ∧ (wtL l)[i * 3 + 2]? = some (.int .u32 l[i].v) := by
  induction l with
  | nil => intro i h; simp at h
  | cons o r ih =>
    intro i h
    have e : wtL (o :: r) = [.int .u32 o.addr, .int .i64 o.size, .int .u32 o.v] ++ wtL r := rfl
    rw [e]
    cases i with
    | zero => exact ⟨rfl, rfl, rfl⟩
    | succ i =>
      have := ih i (by simpa using h)
      rw [List.getElem?_append_right (by simp; omega), List.getElem?_append_right (by simp; omega), List.getElem?_append_right (by simp; omega)]
      simp only [List.length_cons, List.length_nil, List.getElem_cons_succ]
      rw [show (i + 1) * 3 - (0 + 1 + 1 + 1) = i * 3 by omega, show (i + 1) * 3 + 1 - (0 + 1 + 1 + 1) = i * 3 + 1 by omega, show (i + 1) * 3 + 2 - (0 + 1 + 1 + 1) = i * 3 + 2 by omega]
      exact this
/-- the stores that wait, as they are read -/
def WtsAt (w : World) (A : Option Addr) (n cap : Nat) (l : List Ir.Wt) : Prop := l.length = n ∧ n ≤ cap ∧ cap ≤ 9223372036854775807 ∧ (n = 0 ∨ ∃ g, A = some ⟨g, 0, none⟩ ∧ ∀ i, (hi : i < l.length) → w.cell? ⟨g, i * 3, none⟩ = some (.int .u32 l[i].addr) ∧ w.cell? ⟨g, i * 3 + 1, none⟩ = some (.int .i64 l[i].size) ∧ w.cell? ⟨g, i * 3 + 2, none⟩ = some (.int .u32 l[i].v))
theorem WtsAt.keep {w w' : World} {A : Option Addr} {n cap : Nat} {l : List Ir.Wt} (h : WtsAt w A n cap l) (k : Keeps (fun _ => False) w w') : WtsAt w' A n cap l := by
  obtain ⟨h1, h2, h3, h4 | ⟨g, h5, h6⟩⟩ := h
  · exact ⟨h1, h2, h3, .inl h4⟩
  · refine ⟨h1, h2, h3, .inr ⟨g, h5, fun i hi => ?_⟩⟩
    obtain ⟨a, b, c⟩ := h6 i hi
    exact ⟨k.cell' a (fun h => h), k.cell' b (fun h => h), k.cell' c (fun h => h)⟩
theorem MachAt.wts {w : World} {B mb rp : Nat} {c : Ir.Mc} (h : MachAt w B mb rp c) : ∃ A cap, w.cell? ⟨mb, 65, none⟩ = some (.slice A c.ws.length cap) ∧ WtsAt w A c.ws.length cap c.ws := by
  obtain ⟨⟨v, h1, h2, h3⟩, h4⟩ := h
  have hc := rowIs_cell h1 65 (by omega)
  rw [machF, if_neg (by omega), if_neg (by omega)] at hc
  obtain ⟨A, cap, rfl⟩ := owns_slice h2
  refine ⟨A, cap, hc, rfl, ?_⟩
  obtain ⟨_, ⟨h5, h6⟩ | ⟨g2, cap', cur, h5, h6, h7, h8, h9, h10, h11⟩⟩ := h2
  · injection h5 with e1 e2 e3
    exact ⟨by omega, by omega, .inl h6⟩
  · injection h5 with e1 e2 e3
    subst e1 e3
    refine ⟨h8, by unfold maxLen at h9; omega, .inr ⟨g2, rfl, fun i hi => ?_⟩⟩
    obtain ⟨a, b, d⟩ := wtL_get c.ws i hi
    have key : ∀ j u, j < c.ws.length * 3 → (wtL c.ws)[j]? = some u → w.cell? ⟨g2, j, none⟩ = some u := by
      intro j u hj hu
      rw [← h11, List.getElem?_take_of_lt hj] at hu
      unfold World.cell?
      rw [h7]
      simpa using hu
    exact ⟨key _ _ (by omega) a, key _ _ (by omega) b, key _ _ (by omega) d⟩
/-- bytes of which the first are as stores that wait left them -/
def mixA (m : Nat → Int) (ws : List Ir.Wt) (a i : Nat) (j : Nat) : Int := if j < a + i then Ir.pend m ws j else m j
def mixB (m : Nat → Int) (ws : List Ir.Wt) (a i k : Nat) (j : Nat) : Int := if j < a + i then Ir.pend m ws j else if j = a + i then Ir.pend m (ws.take k) j else m j
theorem be_ext {f g : Nat → Int} {a : Nat} : ∀ {n : Nat}, (∀ j, j < n → f (a + j) = g (a + j)) → be f a n = be g a n
  | 0, _ => rfl
  | n + 1, h => by rw [be, be, be_ext (fun j hj => h j (by omega)), h n (by omega)]
theorem sb_rng (v : Int) (n i : Nat) : 0 ≤ sb v n i ∧ sb v n i < 256 := by unfold sb; omega
theorem pend_rng {m : Nat → Int} (hm : ∀ j, j < 16384 → 0 ≤ m j ∧ m j < 256) : ∀ (ws : List Ir.Wt), ∀ j, j < 16384 → 0 ≤ Ir.pend m ws j ∧ Ir.pend m ws j < 256 := by
  intro ws
  induction ws generalizing m with
  | nil => exact hm
  | cons s r ih =>
    refine ih (m := stTo m s.addr.toNat s.size.toNat s.v s.size.toNat) (fun j hj => ?_)
    unfold stTo
    split
    · exact sb_rng _ _ _
    · exact hm j hj
theorem pend_snoc (m : Nat → Int) (ws : List Ir.Wt) (k : Nat) (hk : k < ws.length) : Ir.pend m (ws.take (k + 1)) = stTo (Ir.pend m (ws.take k)) ws[k].addr.toNat ws[k].size.toNat ws[k].v ws[k].size.toNat := by
  rw [List.take_succ_eq_append_getElem hk]
  unfold Ir.pend
  rw [List.foldl_append]
  rfl
theorem mixB_rng {m : Nat → Int} (hm : ∀ j, j < 16384 → 0 ≤ m j ∧ m j < 256) (ws : List Ir.Wt) (a i k j : Nat) (hj : j < 16384) : 0 ≤ mixB m ws a i k j ∧ mixB m ws a i k j < 256 := by
  unfold mixB
  split
  · exact pend_rng hm _ _ hj
  · split
    · exact pend_rng hm _ _ hj
    · exact hm _ hj
theorem mixB_zero (m : Nat → Int) (ws : List Ir.Wt) (a i : Nat) : mixB m ws a i 0 = mixA m ws a i := by
  funext j
  unfold mixB mixA
  split
  · rfl
  · split
    · rfl
    · rfl
theorem mixB_all (m : Nat → Int) (ws : List Ir.Wt) (a i N : Nat) (h : ws.length = N) : mixB m ws a i N = mixA m ws a (i + 1) := by
  funext j
  unfold mixB mixA
  rw [← h, List.take_length]
  by_cases h1 : j < a + i
  · rw [if_pos h1, if_pos (by omega)]
  · rw [if_neg h1]
    by_cases h2 : j = a + i
    · rw [if_pos h2, if_pos (by omega)]
    · rw [if_neg h2, if_neg (by omega)]
theorem mixB_in {m : Nat → Int} {ws : List Ir.Wt} {a i k : Nat} {sa sz sv : Int} (hk : k < ws.length) (hs : ws[k] = ⟨sa, sz, sv⟩) (h0 : 0 ≤ sa) (h1 : sa ≤ (a : Int) + i) (h2 : (a : Int) + i < sa + sz) (u2 : Nat) (hu2 : (u2 : Int) = 8 * (sz - 1 - ((a : Int) + i - sa))) :
    mixB m ws a i (k + 1) = upd (mixB m ws a i k) (a + i) (sv / 2 ^ u2 % 256) := by
  funext j
  unfold mixB upd
  simp only []
  by_cases h3 : j < a + i
  · rw [if_pos h3, if_neg (by omega), if_pos h3]
  · rw [if_neg h3, if_neg h3]
    by_cases h4 : j = a + i
    · rw [if_pos h4, if_pos h4, pend_snoc m ws k hk, hs]
      unfold stTo
      simp only
      rw [if_pos (by omega)]
      unfold sb
      rw [show 8 * (sz.toNat - 1 - (j - sa.toNat)) = u2 by omega]
    · rw [if_neg h4, if_neg h4, if_neg h4]
theorem mixB_out {m : Nat → Int} {ws : List Ir.Wt} {a i k : Nat} {sa sz sv : Int} (hk : k < ws.length) (hs : ws[k] = ⟨sa, sz, sv⟩) (h0 : 0 ≤ sa) (h : ¬ (sa ≤ (a : Int) + i ∧ (a : Int) + i < sa + sz)) :
    mixB m ws a i (k + 1) = mixB m ws a i k := by
  funext j
  unfold mixB
  by_cases h3 : j < a + i
  · rw [if_pos h3, if_pos h3]
  · rw [if_neg h3, if_neg h3]
    by_cases h4 : j = a + i
    · rw [if_pos h4, if_pos h4, pend_snoc m ws k hk, hs]
      unfold stTo
      simp only
      rw [if_neg (by omega)]
    · rw [if_neg h4, if_neg h4]
set_option maxHeartbeats 4000000 in
set_option maxRecDepth 100000 in
theorem mload_any (B mb r pb pw ph cp : Nat) (c : Ir.Mc) (m : Nat → Int) (W : Int → Bool) (ad b : Int) (n : Nat) (w : World) (ea : Nat → Addr) (E : Errs3 w ea) (M : MachAt w B mb r c) (R : RamAt w r pb pw ph cp m) (ha : 0 ≤ ad ∧ ad < 4294967296)
    (hn : n = 1 ∨ n = 2 ∨ n = 4) (hb : b = n ∨ b = -n) (hB : B ≤ w.heap.size) (hok : Ir.McOk W c) (h : rightC ad n = 0) :
    Calls Tryz.prog 90 #[.pointer (some ⟨mb, 0, none⟩), .int .u32 ad, .int .i64 b] w fun e w' => e = .returned (.tuple #[.int .u32 (Ir.loadV m c.ws ad b), .bool true]) ∧ Keeps (fun _ => False) w w' := by
  have hm := M.ram
  obtain ⟨_, hal, hah⟩ := rightC_ok h
  have hfit : ad + n ≤ 16384 := by rcases hn with rfl | rfl | rfl <;> omega
  have HRG := Lib.hid R.rng
  have HWS := Lib.hid hok.ws
  have HLV := Lib.hid (show Ir.loadV m c.ws ad b = Wd.wide (be (Ir.pend m c.ws) ad.toNat n) (8 * n) (decide (b < 0)) by
    unfold Ir.loadV
    rw [show b.natAbs = n by omega])
  have HL := Lib.hid (load_okI r pb pw ph cp m ad n false w R ha.1 h)
  have hb2 : -4 ≤ b ∧ b ≤ 4 := by omega
  have hmax : max b (-b) = (n : Int) := by omega
  go_enter Tryz.func90, Tryz.ntmps90
  go_wp2_with fail
  refine HL.out.mono ?_
  rintro e w1 ⟨rfl, rfl⟩
  obtain ⟨a0, ha0⟩ := Int.eq_ofNat_of_zero_le ha.1
  subst ha0
  rw [Int.toNat_natCast] at HLV
  obtain ⟨A, cap, hw65, hWT⟩ := M.wts
  have HM := Lib.hid M
  have HWT := Lib.hid hWT
  have h65 := Lib.hid hw65
  obtain ⟨N, hN⟩ : ∃ N, c.ws.length = N := ⟨_, rfl⟩
  rw [hN] at HWT h65
  have HN := Lib.hid hN
  clear hN hWT hw65 M
  have HBR := Lib.hid (fun i k => be_rng (mixB m c.ws a0 i k) a0 n (fun j hj => mixB_rng HRG.out c.ws a0 i k (a0 + j) (by omega)))
  have HBX := Lib.hid (fun i k j (hj : j < n) => mixB_rng HRG.out c.ws a0 i k (a0 + j) (by omega))
  have HP4 := Lib.hid (show (256 : Int) ^ n ≤ 4294967296 by rcases hn with rfl | rfl | rfl <;> decide)
  have HW0 := Lib.hid (show Wd.wide (be m a0 n) (8 * n) false = be (mixA m c.ws a0 0) a0 n by
    rw [wide_be hn (fun j hj => HRG.out _ (by omega))]
    refine be_ext (fun j hj => ?_)
    unfold mixA
    rw [if_neg (by omega)])
  have HWN := Lib.hid (show be (mixA m c.ws a0 n) a0 n = be (Ir.pend m c.ws) a0 n from be_ext (fun j hj => by unfold mixA; rw [if_pos (by omega)]))
  go_wp2_with fail
  go_loopw [33, 9] (fun s33 s9 wr => ∃ i : Nat, i ≤ n ∧ s33 = .int .i64 i ∧ s9 = .int .u32 (be (mixA m c.ws a0 i) a0 n) ∧ Keeps (fun _ => False) w wr) (fun s33 _ _ => n - (intOf s33).toNat)
  case atStart => exact ⟨0, by omega, rfl, by rw [HW0.out], Keeps.refl _ _⟩
  case round =>
    obtain ⟨i, hi, rfl, rfl, hKi⟩ := hrel
    have HKI := Lib.hid hKi
    by_cases hlt : i < n
    · have c65 := hKi.cell' h65.out (fun h => h)
      have hNle := HWT.out.2.1
      clear hKi hm
      go_wp2_with fail
      go_loopw [41, 9] (fun s41 s9 wq => ∃ k : Nat, k ≤ N ∧ s41 = .int .i64 k ∧ s9 = .int .u32 (be (mixB m c.ws a0 i k) a0 n) ∧ Keeps (fun _ => False) wr wq) (fun s41 _ _ => N - (intOf s41).toNat)
      case atStart => exact ⟨0, by omega, rfl, by rw [mixB_zero], Keeps.refl _ _⟩
      case round =>
        obtain ⟨k, hk, rfl, rfl, hKk⟩ := hrel
        have HKK := Lib.hid hKk
        by_cases hlt2 : k < N
        · obtain ⟨_, _, hcap, h0 | ⟨g, rfl, hg⟩⟩ := HWT.out.keep (HKI.out.trans hKk (fun _ _ h => h))
          · omega
          obtain ⟨g0, g1, g2⟩ := hg k (by rw [HN.out]; exact hlt2)
          obtain ⟨st, hst⟩ : ∃ st, c.ws[k]'(by rw [HN.out]; exact hlt2) = st := ⟨_, rfl⟩
          rw [hst] at g0 g1 g2
          obtain ⟨sa, sz, sv⟩ := st
          simp only at g0 g1 g2
          clear hg hKk
          obtain ⟨vv, hvv⟩ : ∃ vv, be (mixB m c.ws a0 i k) a0 n = vv := ⟨_, rfl⟩
          rw [hvv]
          have HVV := Lib.hid hvv
          have HST := Lib.hid hst
          clear hvv hst
          have hso := HWS.out _ (List.getElem_mem (show k < c.ws.length by rw [HN.out]; exact hlt2))
          rw [HST.out] at hso
          obtain ⟨hs1, hs2, hsv, _⟩ := hso
          simp only at hs1 hs2 hsv
          obtain ⟨hsz, _, hs3⟩ := rightC_ok hs1
          have hsa : 0 ≤ sa ∧ sa < 4294967296 := by omega
          have hvr : 0 ≤ vv ∧ vv < 4294967296 := by
            have h1 := HBR.out i k
            have h2 := HP4.out
            rw [HVV.out] at h1
            exact ⟨h1.1, Int.lt_of_lt_of_le h1.2 h2⟩
          clear hs1 hs2 hs3
          by_cases hin : sa ≤ a0 + i ∧ (a0 : Int) + i < sa + sz
          · obtain ⟨hi1, hi2⟩ := hin
            have t1 : decide (sa ≤ (a0 : Int) + i) = true := decide_eq_true hi1
            have t2 : decide ((a0 : Int) + i - sa < sz) = true := decide_eq_true (by omega)
            have hkc : k < c.ws.length := by rw [HN.out]; exact hlt2
            go_upto_region 14 with fail
            obtain ⟨u, hu⟩ : ∃ u : Nat, 8 * ((n : Int) - 1 - i) = u := ⟨(8 * ((n : Int) - 1 - i)).toNat, by omega⟩
            have hw1 : IntKind.i64.wrap (sz - 1) = sz - 1 := by rw [IntKind.wrap_i64]; omega
            have hw2 : IntKind.i64.wrap (sz - 1 - ((a0 : Int) + i - sa)) = sz - 1 - ((a0 : Int) + i - sa) := by rw [IntKind.wrap_i64]; omega
            obtain ⟨u2, hu2⟩ : ∃ u : Nat, 8 * (sz - 1 - ((a0 : Int) + i - sa)) = u := ⟨(8 * (sz - 1 - ((a0 : Int) + i - sa))).toNat, by omega⟩
            have hw3 : IntKind.i64.wrap (8 * (sz - 1 - ((a0 : Int) + i - sa))) = (u2 : Int) := by rw [IntKind.wrap_i64]; omega
            have hu24 : u ≤ 24 := by omega
            have hu224 : u2 ≤ 24 := by omega
            have HNEW := Lib.hid (show bits .or .u32 (bits .andNot .u32 vv (255 * 2 ^ u % 4294967296)) (bits .and .u32 (sv / 2 ^ u2) 255 * 2 ^ u % 4294967296) = be (mixB m c.ws a0 i (k + 1)) a0 n by
              rw [int_patch vv sv u u2 hu24 hvr hsv hu224, mixB_in hkc HST.out hsa.1 hi1 hi2 u2 hu2.symm, be_patch hn hlt hu.symm (fun j hj => HBX.out i k j hj), HVV.out])
            rw [hu]
            clear hu2 hu hi1 hi2
            go_quiet (fail)
            have HKQ := Lib.hid (HKK.out.trans ((((Keeps.refl (fun _ => False) wr).alloc (.cells #[.int .u32 sa, .int .i64 sz, .int .u32 sv] 146))).drewN nq) (fun _ _ h => h))
            go_wp2_with fail
            go_roundw
            case rel => exact ⟨k + 1, by omega, by go_num, by rw [HNEW.out], HKQ.out⟩
            case measure => simp [intOf]; omega
          · have hkc : k < c.ws.length := by rw [HN.out]; exact hlt2
            have HNEW := Lib.hid (show vv = be (mixB m c.ws a0 i (k + 1)) a0 n by rw [mixB_out hkc HST.out hsa.1 hin, HVV.out])
            have HKQ := Lib.hid (HKK.out.trans (((Keeps.refl (fun _ => False) wr).alloc (.cells #[.int .u32 sa, .int .i64 sz, .int .u32 sv] 146))) (fun _ _ h => h))
            by_cases h1 : sa ≤ (a0 : Int) + i
            · have t1 : decide (sa ≤ (a0 : Int) + i) = true := decide_eq_true h1
              have t2 : decide ((a0 : Int) + i - sa < sz) = false := decide_eq_false (by omega)
              clear hin
              go_wp2_with fail
              go_roundw
              case rel => exact ⟨k + 1, by omega, by go_num, by rw [← HNEW.out], HKQ.out⟩
              case measure => simp [intOf]; omega
            · have t1 : decide (sa ≤ (a0 : Int) + i) = false := decide_eq_false h1
              clear hin
              go_wp2_with fail
              go_roundw
              case rel => exact ⟨k + 1, by omega, by go_num, by rw [← HNEW.out], HKQ.out⟩
              case measure => simp [intOf]; omega
        · obtain rfl : k = N := by omega
          have HALL := Lib.hid (mixB_all m c.ws a0 i k HN.out)
          clear hKk
          go_wp2_with fail
          go_roundw
          case rel => exact ⟨i + 1, by omega, by go_num, by rw [HALL.out], HKI.out.trans HKK.out (fun _ _ h => h)⟩
          case measure => simp [intOf]; omega
    · obtain rfl : i = n := by omega
      have HV4 := Lib.hid (show 0 ≤ be (Ir.pend m c.ws) a0 i ∧ be (Ir.pend m c.ws) a0 i < 4294967296 by
        have h1 := be_rng (Ir.pend m c.ws) a0 i (fun j hj => pend_rng HRG.out c.ws (a0 + j) (by omega))
        exact ⟨h1.1, Int.lt_of_lt_of_le h1.2 HP4.out⟩)
      rw [HWN.out]
      generalize be (Ir.pend m c.ws) a0 i = vv at *
      have HWD := Lib.hid (fun w => wide_any vv (8 * i) (decide (b < 0)) w HV4.out)
      clear hKi hm
      go_wp2_with fail
      refine (HWD.out _).mono ?_
      rintro e w' ⟨rfl, rfl⟩
      go_wp2_with fail
      go_ret2
      exact ⟨by rw [HLV.out]; rfl, HKI.out⟩
end Go.Proofs.YtgmbladcoikffaaGreatDoor
