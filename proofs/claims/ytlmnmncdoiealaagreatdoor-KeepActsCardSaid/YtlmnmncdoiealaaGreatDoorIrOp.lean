
/- The walks of what looks at one op: the code's out, register, registers, bytes, bare, CheckOp. -/
import Derived.Test.YtlmnmncdoiealaaGreatDoorIrKind
import Derived.Test.YtlmnmncdoiealaaGreatDoorErr
import Derived.Deep.DeepCutAuto
import Derived.Deep.CutRange
import Derived.WalkLawsBesides
namespace Go.Proofs.YtlmnmncdoiealaaGreatDoor
open Go.RowKit Go.Deep
set_option linter.unusedVariables false
set_option linter.unusedSimpArgs false

/-- an op's cells -/
def opC (o : Ir.Op) : Array Value := #[.string o.k, .int .i64 o.d, .int .i64 o.a, .int .i64 o.b, .int .u32 o.imm, .int .i64 o.at_]
/-- an op in a block of its own -/
structure OpAt (w : World) (x : Nat) (o : Ir.Op) : Prop where
  v0 : w.cell? ⟨x, 0, none⟩ = some (.string o.k)
  v1 : w.cell? ⟨x, 1, none⟩ = some (.int .i64 o.d)
  v2 : w.cell? ⟨x, 2, none⟩ = some (.int .i64 o.a)
  v3 : w.cell? ⟨x, 3, none⟩ = some (.int .i64 o.b)
  v4 : w.cell? ⟨x, 4, none⟩ = some (.int .u32 o.imm)
  v5 : w.cell? ⟨x, 5, none⟩ = some (.int .i64 o.at_)
theorem OpAt.keep {S : Nat → Prop} {w w' : World} {x : Nat} {o : Ir.Op} (V : OpAt w x o) (k : Keeps S w w') (h : ¬ S x) : OpAt w' x o :=
  ⟨k.cell' V.v0 h, k.cell' V.v1 h, k.cell' V.v2 h, k.cell' V.v3 h, k.cell' V.v4 h, k.cell' V.v5 h⟩
theorem OpAt.new (w : World) (o : Ir.Op) (T : TypeId) : OpAt (w.alloc (.cells (opC o) T)) w.heap.size o := by
  constructor <;> (unfold World.cell?; rw [blk_alloc_new]; rfl)
theorem op_new (w : World) (k : ByteArray) (d a b im t : Int) (T : TypeId) : OpAt (w.alloc (.cells #[.string k, .int .i64 d, .int .i64 a, .int .i64 b, .int .u32 im, .int .i64 t] T)) w.heap.size ⟨k, d, a, b, im, t⟩ ∧ Keeps (fun _ => False) w (w.alloc (.cells #[.string k, .int .i64 d, .int .i64 a, .int .i64 b, .int .u32 im, .int .i64 t] T)) :=
  ⟨OpAt.new w ⟨k, d, a, b, im, t⟩ T, (Keeps.refl _ _).alloc _⟩

theorem nat_beq (a b : Nat) : (a == b) = decide (a = b) := by
  rw [Bool.eq_iff_iff]
  simp
theorem is_out (k : ByteArray) : (k.toList == [111, 117, 116]) = (Ir.kn k == 8) := Ir.eq_lit2 k 8 (by omega)
theorem is_outr (k : ByteArray) : (k.toList == [111, 117, 116, 114]) = (Ir.kn k == 9) := Ir.eq_lit2 k 9 (by omega)
theorem is_load (k : ByteArray) : (k.toList == [108, 111, 97, 100]) = (Ir.kn k == 5) := Ir.eq_lit2 k 5 (by omega)
theorem is_store (k : ByteArray) : (k.toList == [115, 116, 111, 114, 101]) = (Ir.kn k == 6) := Ir.eq_lit2 k 6 (by omega)
theorem is_if (k : ByteArray) : (k.toList == [105, 102]) = (Ir.kn k == 7) := Ir.eq_lit2 k 7 (by omega)
theorem is_set (k : ByteArray) : (k.toList == [115, 101, 116]) = (Ir.kn k == 1) := Ir.eq_lit2 k 1 (by omega)
theorem is_copy (k : ByteArray) : (k.toList == [99, 111, 112, 121]) = (Ir.kn k == 2) := Ir.eq_lit2 k 2 (by omega)

theorem register_any (n l : Int) (w : World) :
    Calls Tryz.prog 100 #[.int .i64 n, .int .i64 l] w fun e w' => e = .returned (.bool (decide (l ≤ n ∧ n < 64))) ∧ w' = w := by
  by_cases h1 : l ≤ n
  · have t1 : decide (l ≤ n) = true := decide_eq_true h1
    by_cases h2 : n < 64
    · have HR := Lib.hid (show decide (l ≤ n ∧ n < 64) = true from decide_eq_true ⟨h1, h2⟩)
      generalize decide (l ≤ n ∧ n < 64) = r at *
      obtain rfl := HR.out
      go_enter Tryz.func100, Tryz.ntmps100
      go_wp2_with fail
      go_ret
      exact ⟨rfl, rfl⟩
    · have HR := Lib.hid (show decide (l ≤ n ∧ n < 64) = false from decide_eq_false (fun h => h2 h.2))
      generalize decide (l ≤ n ∧ n < 64) = r at *
      obtain rfl := HR.out
      have t2 : decide (n < 64) = false := decide_eq_false h2
      go_enter Tryz.func100, Tryz.ntmps100
      go_wp2_with fail
      go_ret
      exact ⟨rfl, rfl⟩
  · have HR := Lib.hid (show decide (l ≤ n ∧ n < 64) = false from decide_eq_false (fun h => h1 h.1))
    generalize decide (l ≤ n ∧ n < 64) = r at *
    obtain rfl := HR.out
    have t1 : decide (l ≤ n) = false := decide_eq_false h1
    go_enter Tryz.func100, Tryz.ntmps100
    go_wp2_with fail
    go_ret
    exact ⟨rfl, rfl⟩
set_option maxHeartbeats 2000000 in
set_option maxRecDepth 100000 in
theorem registers_any (o : Ir.Op) (w : World) :
    Calls Tryz.prog 87 #[.agg (opC o)] w fun e w' => e = .returned (.bool (Ir.regs o)) ∧ Keeps (fun _ => False) w w' := by
  obtain ⟨k, d, a, b, im, t⟩ := o
  have HN := Lib.hid (op_new w k d a b im t 64)
  have H5 := Lib.hid (is_load k)
  have H6 := Lib.hid (is_store k)
  have HH := Lib.hid (fun w => has_any k w)
  have HC := Lib.hid (fun l hl w => contains_fields (Ir.kn k) (Ir.kn_le k) l hl w)
  have HR : Hid (Ir.regs ⟨k, d, a, b, im, t⟩ = ((!hasL (Ir.kn k) 68 || (Ir.kn k == 6) || decide (1 ≤ d ∧ d < 64)) && (!hasL (Ir.kn k) 65 || decide (0 ≤ a ∧ a < 64)) && (!hasL (Ir.kn k) 66 || (Ir.kn k == 5) || decide (0 ≤ b ∧ b < 64)))) := Lib.hid (by
    unfold Ir.regs hasL
    simp [nat_beq])
  generalize Ir.regs ⟨k, d, a, b, im, t⟩ = r at *
  obtain rfl := HR.out
  clear HR
  generalize Ir.kn k = c at *
  have HD := Lib.hid (HC.out 68 (.inl rfl))
  have HA := Lib.hid (HC.out 65 (.inr (.inl rfl)))
  have HB := Lib.hid (HC.out 66 (.inr (.inr (.inl rfl))))
  clear HC
  generalize hasL c 68 = pd at *
  generalize hasL c 65 = pa at *
  generalize hasL c 66 = pb at *
  generalize fieldsB c = fb at *
  generalize (c == 5) = p5 at *
  generalize (c == 6) = p6 at *
  obtain ⟨rd, hrd⟩ : ∃ rd, (!pd || p6 || decide (1 ≤ d ∧ d < 64)) = rd := ⟨_, rfl⟩
  obtain ⟨ra, hra⟩ : ∃ ra, (!pa || decide (0 ≤ a ∧ a < 64)) = ra := ⟨_, rfl⟩
  obtain ⟨rb, hrb⟩ : ∃ rb, (!pb || p5 || decide (0 ≤ b ∧ b < 64)) = rb := ⟨_, rfl⟩
  rw [hrd, hra, hrb]
  have HRD := Lib.hid hrd
  have HRA := Lib.hid hra
  have HRB := Lib.hid hrb
  clear hrd hra hrb
  unfold opC
  go_enter Tryz.func87, Tryz.ntmps87
  go_upto_region 1 with fail
  obtain ⟨hV, hK⟩ := HN.out
  generalize w.alloc _ = w1 at *
  generalize w.heap.size = x at *
  obtain ⟨v0, v1, v2, v3, v4, v5⟩ := hV
  simp only at v0 v1 v2 v3 v4 v5
  have HK := Lib.hid hK
  clear hK HN
  go_wp2_with fail
  refine (HH.out _).mono ?_
  rintro e w' ⟨rfl, rfl⟩
  go_upto_region 2 with fail
  go_cut [4] (fun s4 wx => s4 = .bool rd ∧ wx = w')
  case first =>
    go_wp2_with fail
    refine (HD.out _).mono ?_
    rintro e w2 ⟨rfl, rfl⟩
    have h6 := H6.out
    cases pd
    · go_wp2_with fail
      go_meet
      exact ⟨by rw [← HRD.out]; rfl, rfl⟩
    · cases p6
      · go_wp2_with fail
        refine (register_any _ _ _).mono ?_
        rintro e w3 ⟨rfl, rfl⟩
        go_wp2_with fail
        go_meet
        exact ⟨by rw [← HRD.out]; simp, rfl⟩
      · go_wp2_with fail
        go_meet
        exact ⟨by rw [← HRD.out]; rfl, rfl⟩
  case rest =>
    obtain ⟨rfl, rfl⟩ := hcut
    go_upto_region 3 with fail
    go_cut [5] (fun s5 wx => s5 = .bool ra ∧ wx = wc)
    case first =>
      go_wp2_with fail
      refine (HA.out _).mono ?_
      rintro e w2 ⟨rfl, rfl⟩
      cases pa
      · go_wp2_with fail
        go_meet
        exact ⟨by rw [← HRA.out]; rfl, rfl⟩
      · go_wp2_with fail
        refine (register_any _ _ _).mono ?_
        rintro e w3 ⟨rfl, rfl⟩
        go_wp2_with fail
        go_meet
        exact ⟨by rw [← HRA.out]; simp, rfl⟩
    case rest =>
      obtain ⟨rfl, rfl⟩ := hcut
      go_upto_region 4 with fail
      go_cut [6] (fun s6 wx => s6 = .bool rb ∧ wx = wc)
      case first =>
        go_wp2_with fail
        refine (HB.out _).mono ?_
        rintro e w2 ⟨rfl, rfl⟩
        have h5 := H5.out
        cases pb
        · go_wp2_with fail
          go_meet
          exact ⟨by rw [← HRB.out]; rfl, rfl⟩
        · cases p5
          · go_wp2_with fail
            refine (register_any _ _ _).mono ?_
            rintro e w3 ⟨rfl, rfl⟩
            go_wp2_with fail
            go_meet
            exact ⟨by rw [← HRB.out]; simp, rfl⟩
          · go_wp2_with fail
            go_meet
            exact ⟨by rw [← HRB.out]; rfl, rfl⟩
      case rest =>
        obtain ⟨rfl, rfl⟩ := hcut
        cases rd
        · go_wp2_with fail
          go_ret
          exact ⟨rfl, HK.out⟩
        · cases ra
          · go_wp2_with fail
            go_ret
            exact ⟨rfl, HK.out⟩
          · go_wp2_with fail
            go_ret
            exact ⟨rfl, HK.out⟩
end Go.Proofs.YtlmnmncdoiealaaGreatDoor
