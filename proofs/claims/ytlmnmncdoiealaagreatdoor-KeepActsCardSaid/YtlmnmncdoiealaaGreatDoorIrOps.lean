
/- Rows of ops in memory; the walks of Stores, storesOf. -/
import Derived.Test.YtlmnmncdoiealaaGreatDoorIrOp3
import Derived.LoopTactic
namespace Go.Proofs.YtlmnmncdoiealaaGreatDoor
open Go.RowKit Go.Deep
set_option linter.unusedVariables false
set_option linter.unusedSimpArgs false

/-- an op's cells from a place on -/
structure OpLies (w : World) (b o : Nat) (x : Ir.Op) : Prop where
  v0 : w.cell? ⟨b, o, none⟩ = some (.string x.k)
  v1 : w.cell? ⟨b, o + 1, none⟩ = some (.int .i64 x.d)
  v2 : w.cell? ⟨b, o + 2, none⟩ = some (.int .i64 x.a)
  v3 : w.cell? ⟨b, o + 3, none⟩ = some (.int .i64 x.b)
  v4 : w.cell? ⟨b, o + 4, none⟩ = some (.int .u32 x.imm)
  v5 : w.cell? ⟨b, o + 5, none⟩ = some (.int .i64 x.at_)
theorem OpLies.keep {S : Nat → Prop} {w w' : World} {b o : Nat} {x : Ir.Op} (V : OpLies w b o x) (k : Keeps S w w') (h : ¬ S b) : OpLies w' b o x :=
  ⟨k.cell' V.v0 h, k.cell' V.v1 h, k.cell' V.v2 h, k.cell' V.v3 h, k.cell' V.v4 h, k.cell' V.v5 h⟩
/-- A SLICE OF OPS -/
structure OpsAt (w : World) (A : Option Addr) (n cap : Nat) (l : List Ir.Op) : Prop where
  len : l.length = n
  le : n ≤ cap
  lies : cap = 0 ∨ ∃ b o, A = some ⟨b, o, none⟩ ∧ b < w.heap.size ∧ ∀ i, i < n → OpLies w b (o + i * 6) (l.getD i Ir.nop)
theorem OpsAt.keep {S : Nat → Prop} {w w' : World} {A : Option Addr} {n cap : Nat} {l : List Ir.Op} (V : OpsAt w A n cap l) (k : Keeps S w w') (h : ∀ b, A.map (·.block) = some b → ¬ S b) : OpsAt w' A n cap l := by
  obtain ⟨h1, h2, h3 | ⟨b, o, rfl, hb, hc⟩⟩ := V
  · exact ⟨h1, h2, .inl h3⟩
  · exact ⟨h1, h2, .inr ⟨b, o, rfl, Nat.lt_of_lt_of_le hb k.size, fun i hi => (hc i hi).keep k (h b rfl)⟩⟩
theorem OpsAt.quiet {w w' : World} {A : Option Addr} {n cap : Nat} {l : List Ir.Op} (V : OpsAt w A n cap l) (k : Keeps (fun _ => False) w w') : OpsAt w' A n cap l := V.keep k (fun _ _ h => h)
theorem OpsAt.get {w : World} {A : Option Addr} {n cap : Nat} {l : List Ir.Op} (V : OpsAt w A n cap l) {i : Nat} (hi : i < n) : ∃ b o, A = some ⟨b, o, none⟩ ∧ OpLies w b (o + i * 6) (l.getD i Ir.nop) := by
  obtain ⟨h1, h2, h3 | ⟨b, o, rfl, hb, hc⟩⟩ := V
  · omega
  · exact ⟨b, o, rfl, hc i hi⟩
theorem stores_step (l : List Ir.Op) (i : Nat) (hi : i < l.length) : Ir.stores (l.take (i + 1)) = Ir.stores (l.take i) + (if Ir.kn (l.getD i Ir.nop).k == 6 then 1 else 0) := by
  unfold Ir.stores
  have : l.getD i Ir.nop = l[i] := by simp [List.getD, hi]
  rw [List.take_succ_eq_append_getElem hi, List.countP_append, this]
  congr 1
  by_cases h : Ir.kn l[i].k = 6 <;> simp [h]
theorem stores_le (l : List Ir.Op) (i : Nat) : Ir.stores (l.take i) ≤ i := by
  unfold Ir.stores
  exact Nat.le_trans List.countP_le_length (by simp; omega)

set_option maxHeartbeats 2000000 in
set_option maxRecDepth 100000 in
theorem Stores_any (A : Option Addr) (n cap : Nat) (l : List Ir.Op) (w : World) (V : OpsAt w A n cap l) (hc : cap ≤ 9223372036854775807) :
    Calls Tryz.prog 48 #[.slice A n cap] w fun e w' => e = .returned (.int .i64 (Ir.stores l)) ∧ Keeps (fun _ => False) w w' := by
  have HV := Lib.hid V
  have hn := V.le
  have HL := Lib.hid V.len
  clear V
  go_enter Tryz.func48, Tryz.ntmps48
  go_wp2_with fail
  go_loopw [8, 3] (fun s8 s3 wr => ∃ i : Nat, i ≤ n ∧ s8 = .int .i64 i ∧ s3 = .int .i64 (Ir.stores (l.take i)) ∧ Keeps (fun _ => False) w wr) (fun s8 _ _ => n - (intOf s8).toNat)
  case atStart => exact ⟨0, by omega, rfl, rfl, Keeps.refl _ _⟩
  case round =>
    obtain ⟨i, hi, rfl, rfl, hK⟩ := hrel
    have HK := Lib.hid hK
    by_cases hlt : i < n
    · obtain ⟨b, o, rfl, e0, e1, e2, e3, e4, e5⟩ := (HV.out.quiet hK).get hlt
      have HS := Lib.hid (stores_step l i (by rw [HL.out]; exact hlt))
      have h6 := is_store (l.getD i Ir.nop).k
      have hle := stores_le l i
      have HA := Lib.hid (hK.alloc (.cells (opC (l.getD i Ir.nop)) 64))
      clear hK
      generalize Ir.stores (l.take i) = q at *
      generalize l.getD i Ir.nop = op at *
      cases hp : (Ir.kn op.k == 6)
      · rw [hp] at h6 HS
        clear hp
        go_wp2_with fail
        go_roundw
        case rel => exact ⟨i + 1, by omega, by go_num, by rw [HS.out]; simp, HA.out⟩
        case measure => simp [intOf]; omega
      · rw [hp] at h6 HS
        clear hp
        go_wp2_with fail
        go_roundw
        case rel => exact ⟨i + 1, by omega, by go_num, by rw [HS.out]; simp, HA.out⟩
        case measure => simp [intOf]; omega
    · obtain rfl : i = n := by omega
      have HE := Lib.hid (show Ir.stores (l.take i) = Ir.stores l by rw [← HL.out, List.take_length])
      clear hK
      go_wp2_with fail
      go_ret
      exact ⟨by rw [← HE.out]; rfl, HK.out⟩
set_option maxHeartbeats 2000000 in
set_option maxRecDepth 100000 in
theorem storesOf_any (A : Option Addr) (n cap : Nat) (l : List Ir.Op) (w : World) (V : OpsAt w A n cap l) (hc : cap ≤ 9223372036854775807) :
    Calls Tryz.prog 26 #[.slice A n cap] w fun e w' => e = .returned (.int .i64 (Ir.stores l)) ∧ Keeps (fun _ => False) w w' := by
  have HV := Lib.hid V
  have hn := V.le
  have HL := Lib.hid V.len
  clear V
  go_enter Tryz.func26, Tryz.ntmps26
  go_wp2_with fail
  go_loopw [4, 3] (fun s4 s3 wr => ∃ i : Nat, i ≤ n ∧ s4 = .int .i64 i ∧ s3 = .int .i64 (Ir.stores (l.take i)) ∧ Keeps (fun _ => False) w wr) (fun s4 _ _ => n - (intOf s4).toNat)
  case atStart => exact ⟨0, by omega, rfl, rfl, Keeps.refl _ _⟩
  case round =>
    obtain ⟨i, hi, rfl, rfl, hK⟩ := hrel
    have HK := Lib.hid hK
    by_cases hlt : i < n
    · obtain ⟨b, o, rfl, e0, e1, e2, e3, e4, e5⟩ := (HV.out.quiet hK).get hlt
      have HS := Lib.hid (stores_step l i (by rw [HL.out]; exact hlt))
      have h6 := is_store (l.getD i Ir.nop).k
      have hle := stores_le l i
      clear hK
      generalize Ir.stores (l.take i) = q at *
      generalize l.getD i Ir.nop = op at *
      cases hp : (Ir.kn op.k == 6)
      · rw [hp] at h6 HS
        clear hp
        go_wp2_with fail
        go_roundw
        case rel => exact ⟨i + 1, by omega, by go_num, by rw [HS.out]; simp, HK.out⟩
        case measure => simp [intOf]; omega
      · rw [hp] at h6 HS
        clear hp
        go_wp2_with fail
        go_roundw
        case rel => exact ⟨i + 1, by omega, by go_num, by rw [HS.out]; simp, HK.out⟩
        case measure => simp [intOf]; omega
    · obtain rfl : i = n := by omega
      have HE := Lib.hid (show Ir.stores (l.take i) = Ir.stores l by rw [← HL.out, List.take_length])
      clear hK
      go_wp2_with fail
      go_ret
      exact ⟨by rw [← HE.out]; rfl, HK.out⟩
end Go.Proofs.YtlmnmncdoiealaaGreatDoor
