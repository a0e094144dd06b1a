
/- The walks of slices.IndexFunc, DeleteFunc over kept plans. -/
import Derived.Test.YtlmnmncdoiealaaGreatDoorKeepL
import Derived.Deep.RegionHeld3
import Derived.Deep.QuietTactic
import Derived.BigQuiet
namespace Go.Proofs.YtlmnmncdoiealaaGreatDoor
open Go.RowKit Go.Deep
set_option linter.unusedVariables false
set_option linter.unusedSimpArgs false

theorem take_getD {α : Type} (l : List α) (i : Nat) (h : i < l.length) (d : α) : l.take (i + 1) = l.take i ++ [l.getD i d] := by
  rw [List.take_add_one, List.getElem?_eq_getElem h, List.getD_eq_getElem?_getD, List.getElem?_eq_getElem h]
  rfl
theorem getD_memK {l : List K4} {i : Nat} (h : i < l.length) : l.getD i k40 ∈ l := by
  rw [List.getD_eq_getElem?_getD, List.getElem?_eq_getElem h]
  exact List.getElem_mem h
theorem KOwn.typed {w : World} {B : Nat} {l : List K4} {v : Value} (h : KOwn w B l v) : ∀ g, v.ownBlock = some g → ∃ cs, w.heap[g]? = some (.cells cs 77 (0, 0)) := by
  obtain ⟨A, cap, rfl, _, ⟨h2, _⟩ | ⟨g2, cap', cur, h2, h3, h4, _⟩⟩ := h
  · intro g hg; rw [h2] at hg; cases hg
  · intro g hg
    rw [h2] at hg
    injection hg with hg
    subst hg
    exact ⟨_, h4⟩
/-- a closure that is asked for each entry, in turn; what it changes is no kept plan -/
structure PredK (f : Nat) (lb : Array Value) (p : K4 → Bool) (l : List K4) (S : World → Nat → Prop) (St : List K4 → World → Prop) : Prop where
  call : ∀ (done : List K4) (k : K4) (W : World), k ∈ l → done.length < l.length → St done W → Calls Tryz.prog f (#[.agg (kC k)] ++ lb) W fun e w' => e = .returned (.bool (p k)) ∧ St (done ++ [k]) w' ∧ Keeps (S W) W w'
  ty : ∀ done W b cs fz, St done W → W.heap[b]? = some (.cells cs 77 fz) → ¬ S W b
  quiet : ∀ done W W', Keeps (fun _ => False) W W' → St done W → St done W'
def IdxK (p : K4 → Bool) (l : List K4) (B : Nat) (v : Value) (T : Nat → Prop) (St : List K4 → World → Prop) (w : World) (e : Ending) (w' : World) : Prop :=
  (∃ i, i < l.length ∧ p (l.getD i k40) = true ∧ (∀ j, j < i → p (l.getD j k40) = false) ∧ e = .returned (.int .i64 (i : Int)) ∧ St (l.take (i + 1)) w' ∧ KOwn w' B l v ∧ Keeps T w w') ∨
  ((∀ j, j < l.length → p (l.getD j k40) = false) ∧ e = .returned (.int .i64 (-1)) ∧ St l w' ∧ KOwn w' B l v ∧ Keeps T w w')
set_option maxHeartbeats 4000000 in
set_option maxRecDepth 100000 in
theorem indexK_any (f : Nat) (lb : Array Value) (p : K4 → Bool) (S : World → Nat → Prop) (T : Nat → Prop) (St : List K4 → World → Prop) (eg : ∀ args w, (callFunc f args).run Tryz.prog w = .ok (.enter f args) w) (B : Nat) (A : Option Addr) (n cap : Nat) (l : List K4) (w : World) (V : KOwn w B l (.slice A n cap)) (hl : l.length = n) (hn : n ≤ 1000000)
    (hp : PredK f lb p l S St) (h0 : St [] w) (hT : ∀ done W b, St done W → S W b → T b ∨ w.heap.size ≤ b) :
    Calls Tryz.prog 50 #[.slice A n cap, .func (.func f) #[] lb] w (IdxK p l B (.slice A n cap) T St w) := by
  have HV := Lib.hid V
  have HL := Lib.hid hl
  have HP := Lib.hid hp
  have HTT := Lib.hid hT
  have H0 := Lib.hid h0
  obtain ⟨va, hva⟩ : ∃ v, Value.slice A n cap = v := ⟨_, rfl⟩
  have HVA := Lib.hid hva
  have HI1 := Lib.hid (fun (e : Ending) (w' : World) (h : ∃ i, i < l.length ∧ p (l.getD i k40) = true ∧ (∀ j, j < i → p (l.getD j k40) = false) ∧ e = .returned (.int .i64 (i : Int)) ∧ St (l.take (i + 1)) w' ∧ KOwn w' B l va ∧ Keeps T w w') => (show IdxK p l B va T St w e w' from .inl h))
  have HI2 := Lib.hid (fun (e : Ending) (w' : World) (h : (∀ j, j < l.length → p (l.getD j k40) = false) ∧ e = .returned (.int .i64 (-1)) ∧ St l w' ∧ KOwn w' B l va ∧ Keeps T w w') => (show IdxK p l B va T St w e w' from .inr h))
  have HV0 := Lib.hid (show KOwn w B l va by rw [← hva]; exact V)
  rw [show IdxK p l B (.slice A n cap) T St w = IdxK p l B va T St w by rw [hva]]
  clear V hl hp hT h0 hva HV
  go_enter Tryz.func50, Tryz.ntmps50
  go_wp2_with fail
  go_loopw [5, 8] (fun _ s8 wr => ∃ i : Nat, i ≤ n ∧ s8 = .int .i64 i ∧ (∀ j, j < i → p (l.getD j k40) = false) ∧ St (l.take i) wr ∧ KOwn wr B l va ∧ Keeps T w wr) (fun _ s8 _ => n - (intOf s8).toNat)
  case atStart => exact ⟨0, by omega, rfl, fun j hj => absurd hj (by omega), H0.out, HV0.out, Keeps.refl _ _⟩
  case round =>
    obtain ⟨i, hi, rfl, hZ, hT, hO, hK⟩ := hrel
    have HZ := Lib.hid hZ
    have HT := Lib.hid hT
    have HO := Lib.hid hO
    have HK := Lib.hid hK
    clear hZ hT hO hK
    by_cases hlt : i < n
    · have hil : i < l.length := by rw [HL.out]; exact hlt
      obtain ⟨g, go, cg, hvg, hgo, hcell⟩ := HO.out.get (i := i) hil
      clear hgo
      rw [HL.out, ← HVA.out] at hvg
      injection hvg with e1 e2 e3
      subst e1 e3
      have hi63 : (i : Int) < n := by omega
      have HTK := Lib.hid (take_getD l i hil k40)
      have HMEM := Lib.hid (getD_memK hil)
      have HTL := Lib.hid (show (l.take i).length < l.length by rw [List.length_take]; omega)
      obtain ⟨k, hk⟩ : ∃ k, l.getD i k40 = k := ⟨_, rfl⟩
      rw [hk] at hcell HTK HMEM
      have HKE := Lib.hid hk
      clear hk hil
      have e0 : wr.cell? ⟨g, go + i * 4, none⟩ = some (.int .u32 k.pc) := hcell 0 _ (by omega) rfl
      have e1 : wr.cell? ⟨g, go + i * 4 + 1, none⟩ = some (.int .i64 k.many) := hcell 1 _ (by omega) rfl
      have e2 : wr.cell? ⟨g, go + i * 4 + 2, none⟩ = some (.slice k.A k.n k.c) := hcell 2 _ (by omega) rfl
      have e3 : wr.cell? ⟨g, go + i * 4 + 3, none⟩ = some (.slice k.P k.pn k.pcap) := hcell 3 _ (by omega) rfl
      have HCA := Lib.hid (HP.out.call (l.take i) k wr HMEM.out HTL.out HT.out)
      have HNS := Lib.hid (show ∀ g, va.ownBlock = some g → ¬ S wr g from fun g hg => by
        obtain ⟨cs, h⟩ := HO.out.typed g hg
        exact HP.out.ty _ _ _ _ _ HT.out h)
      have HTB := Lib.hid (fun b (h : S wr b) => HTT.out _ _ b HT.out h)
      obtain ⟨pv, hpv⟩ : ∃ b, p k = b := ⟨_, rfl⟩
      rw [hpv] at HCA
      have HPV := Lib.hid hpv
      clear hpv hcell
      unfold kC at HCA
      go_wp2_with fail
      refine HCA.out.mono ?_
      rintro e w5 ⟨rfl, hs5, hk5⟩
      have HT5 := Lib.hid (show St (l.take (i + 1)) w5 by rw [HTK.out]; exact hs5)
      have HO5 := Lib.hid (HO.out.keep hk5 HNS.out)
      have HK5 := Lib.hid (show Keeps T w w5 from HK.out.trans hk5 (fun b hb h => (HTB.out b h).elim id (fun h => absurd hb (Nat.not_lt.2 h))))
      clear hs5 hk5 e0 e1 e2 e3
      cases pv
      · have HZ2 := Lib.hid (show ∀ j, j < i + 1 → p (l.getD j k40) = false from fun j hj => by
          by_cases e : j = i
          · subst e; rw [HKE.out]; exact HPV.out
          · exact HZ.out j (by omega))
        go_wp2_with fail
        go_roundw
        case rel => exact ⟨i + 1, by omega, by go_num, HZ2.out, HT5.out, HO5.out, HK5.out⟩
        case measure => simp [intOf]; omega
      · have HE := Lib.hid (show i < l.length ∧ p (l.getD i k40) = true from ⟨by rw [HL.out]; exact hlt, by rw [HKE.out]; exact HPV.out⟩)
        go_wp2_with fail
        go_ret
        exact HI1.out _ _ ⟨i, HE.out.1, HE.out.2, HZ.out, rfl, HT5.out, HO5.out, HK5.out⟩
    · have hin : i = n := by omega
      have HE := Lib.hid (show (∀ j, j < l.length → p (l.getD j k40) = false) ∧ St l wr from ⟨fun j hj => HZ.out j (by rw [HL.out] at hj; omega), by
        have := HT.out
        rwa [List.take_of_length_le (by rw [HL.out]; omega)] at this⟩)
      subst hin
      go_wp2_with fail
      go_ret
      exact HI2.out _ _ ⟨HE.out.1, rfl, HE.out.2, HO.out, HK.out⟩
end Go.Proofs.YtlmnmncdoiealaaGreatDoor
