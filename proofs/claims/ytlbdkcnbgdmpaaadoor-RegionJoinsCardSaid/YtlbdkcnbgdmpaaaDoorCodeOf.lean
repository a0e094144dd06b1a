
/- The walks of code.of, Kind, Fields, place, fixed. -/
import Derived.Test.YtlbdkcnbgdmpaaaDoorCodeOf0
import Derived.Test.YtlbdkcnbgdmpaaaDoorCodeOf1
import Derived.Test.YtlbdkcnbgdmpaaaDoorCodeOf2
namespace Go.Proofs.YtlbdkcnbgdmpaaaDoor
open Go.RowKit Go.Deep
set_option linter.unusedVariables false

set_option maxRecDepth 100000 in
set_option maxHeartbeats 1000000 in
theorem of_any (op : Nat) (h : op < 54) (w : World) :
    Calls Tryd.prog 37 #[.int .i64 op] w fun e w' => e = .returned (shapeV op) ∧ Keeps (fun _ => False) w w' := by
  by_cases h1 : 29 ≤ op
  · have t1 : decide ((29 : Int) ≤ op) = true := by simp; omega
    go_enter Tryd.func37, Tryd.ntmps37
    go_wp2_with fail
    refine (of2_any op h1 h _).mono ?_
    rintro e w' ⟨rfl, hk⟩
    have K := Keeps.trans ((Keeps.refl (fun _ => False) w).alloc _) hk (fun _ _ h => h)
    have hb := (hk.block w.heap.size (by simp) (fun h => h)).trans (blk_alloc_new w _)
    have hl : w.heap.size < w'.heap.size := by have := hk.size; simp at this; omega
    obtain ⟨⟨c0, c1, c2, c3, c4⟩, f0, f1, f2, f3, f4⟩ := cells5 hb
    have hS : shapeV op = .agg #[.string ⟨(Cd.row op).name.toArray⟩, .int .u32 (Cd.row op).major, .int .u32 (Cd.row op).minor, .string ⟨(Cd.row op).fields.toArray⟩, .string ⟨(Cd.kindS (Cd.row op).kd).toArray⟩] := rfl
    generalize (⟨(Cd.row op).name.toArray⟩ : ByteArray) = nm at *
    generalize (⟨(Cd.row op).fields.toArray⟩ : ByteArray) = fl at *
    generalize (⟨(Cd.kindS (Cd.row op).kd).toArray⟩ : ByteArray) = ks at *
    generalize ((Cd.row op).major : Int) = mj at *
    generalize ((Cd.row op).minor : Int) = mn at *
    rw [hS]
    have HS := Lib.hid hS
    have H5 := Lib.hid (set5 (a' := .string nm) (b' := .int .u32 mj) (c' := .int .u32 mn) (d' := .string fl) (e' := .string ks) hb)
    have HK := Lib.hid K
    clear hk hb hS K
    generalize hx : w.heap.size = x at *
    have HX := Lib.hid hx
    clear hx
    go_wp2_with fail
    generalize (((((w'.setCell ⟨x, 0, none⟩ (.string nm)).setCell ⟨x, 1, none⟩ (.int .u32 mj)).setCell ⟨x, 2, none⟩ (.int .u32 mn)).setCell ⟨x, 3, none⟩ (.string fl)).setCell ⟨x, 4, none⟩ (.string ks)) = W at *
    obtain ⟨⟨d0, d1, d2, d3, d4⟩, _⟩ := cells5 H5.out.1
    refine bodyPost_ret (v := .agg #[.string nm, .int .u32 mj, .int .u32 mn, .string fl, .string ks]) ?_ rfl ⟨by rw [HS.out], ?_⟩
    · simp only [Nat.zero_add] at d1 d2 d3 d4
      simp [results, Tryd.results37, go_sem, d0, d1, d2, d3, d4]
    · exact HK.out.trans H5.out.2 (fun k hk h => by have := HX.out; omega)
  · by_cases h2 : 15 ≤ op
    · have t1 : decide ((29 : Int) ≤ op) = false := by simp; omega
      have t2 : decide ((15 : Int) ≤ op) = true := by simp; omega
      go_enter Tryd.func37, Tryd.ntmps37
      go_wp2_with fail
      refine (of1_any op h2 (by omega) _).mono ?_
      rintro e w' ⟨rfl, hk⟩
      have K := Keeps.trans ((Keeps.refl (fun _ => False) w).alloc _) hk (fun _ _ h => h)
      have hb := (hk.block w.heap.size (by simp) (fun h => h)).trans (blk_alloc_new w _)
      have hl : w.heap.size < w'.heap.size := by have := hk.size; simp at this; omega
      obtain ⟨⟨c0, c1, c2, c3, c4⟩, f0, f1, f2, f3, f4⟩ := cells5 hb
      have hS : shapeV op = .agg #[.string ⟨(Cd.row op).name.toArray⟩, .int .u32 (Cd.row op).major, .int .u32 (Cd.row op).minor, .string ⟨(Cd.row op).fields.toArray⟩, .string ⟨(Cd.kindS (Cd.row op).kd).toArray⟩] := rfl
      generalize (⟨(Cd.row op).name.toArray⟩ : ByteArray) = nm at *
      generalize (⟨(Cd.row op).fields.toArray⟩ : ByteArray) = fl at *
      generalize (⟨(Cd.kindS (Cd.row op).kd).toArray⟩ : ByteArray) = ks at *
      generalize ((Cd.row op).major : Int) = mj at *
      generalize ((Cd.row op).minor : Int) = mn at *
      rw [hS]
      have HS := Lib.hid hS
      have H5 := Lib.hid (set5 (a' := .string nm) (b' := .int .u32 mj) (c' := .int .u32 mn) (d' := .string fl) (e' := .string ks) hb)
      have HK := Lib.hid K
      clear hk hb hS K
      generalize hx : w.heap.size = x at *
      have HX := Lib.hid hx
      clear hx
      go_wp2_with fail
      generalize (((((w'.setCell ⟨x, 0, none⟩ (.string nm)).setCell ⟨x, 1, none⟩ (.int .u32 mj)).setCell ⟨x, 2, none⟩ (.int .u32 mn)).setCell ⟨x, 3, none⟩ (.string fl)).setCell ⟨x, 4, none⟩ (.string ks)) = W at *
      obtain ⟨⟨d0, d1, d2, d3, d4⟩, _⟩ := cells5 H5.out.1
      refine bodyPost_ret (v := .agg #[.string nm, .int .u32 mj, .int .u32 mn, .string fl, .string ks]) ?_ rfl ⟨by rw [HS.out], ?_⟩
      · simp only [Nat.zero_add] at d1 d2 d3 d4
        simp [results, Tryd.results37, go_sem, d0, d1, d2, d3, d4]
      · exact HK.out.trans H5.out.2 (fun k hk h => by have := HX.out; omega)
    · have t1 : decide ((29 : Int) ≤ op) = false := by simp; omega
      have t2 : decide ((15 : Int) ≤ op) = false := by simp; omega
      go_enter Tryd.func37, Tryd.ntmps37
      go_wp2_with fail
      refine (of0_any op (Nat.zero_le _) (by omega) _).mono ?_
      rintro e w' ⟨rfl, hk⟩
      have K := Keeps.trans ((Keeps.refl (fun _ => False) w).alloc _) hk (fun _ _ h => h)
      have hb := (hk.block w.heap.size (by simp) (fun h => h)).trans (blk_alloc_new w _)
      have hl : w.heap.size < w'.heap.size := by have := hk.size; simp at this; omega
      obtain ⟨⟨c0, c1, c2, c3, c4⟩, f0, f1, f2, f3, f4⟩ := cells5 hb
      have hS : shapeV op = .agg #[.string ⟨(Cd.row op).name.toArray⟩, .int .u32 (Cd.row op).major, .int .u32 (Cd.row op).minor, .string ⟨(Cd.row op).fields.toArray⟩, .string ⟨(Cd.kindS (Cd.row op).kd).toArray⟩] := rfl
      generalize (⟨(Cd.row op).name.toArray⟩ : ByteArray) = nm at *
      generalize (⟨(Cd.row op).fields.toArray⟩ : ByteArray) = fl at *
      generalize (⟨(Cd.kindS (Cd.row op).kd).toArray⟩ : ByteArray) = ks at *
      generalize ((Cd.row op).major : Int) = mj at *
      generalize ((Cd.row op).minor : Int) = mn at *
      rw [hS]
      have HS := Lib.hid hS
      have H5 := Lib.hid (set5 (a' := .string nm) (b' := .int .u32 mj) (c' := .int .u32 mn) (d' := .string fl) (e' := .string ks) hb)
      have HK := Lib.hid K
      clear hk hb hS K
      generalize hx : w.heap.size = x at *
      have HX := Lib.hid hx
      clear hx
      go_wp2_with fail
      generalize (((((w'.setCell ⟨x, 0, none⟩ (.string nm)).setCell ⟨x, 1, none⟩ (.int .u32 mj)).setCell ⟨x, 2, none⟩ (.int .u32 mn)).setCell ⟨x, 3, none⟩ (.string fl)).setCell ⟨x, 4, none⟩ (.string ks)) = W at *
      obtain ⟨⟨d0, d1, d2, d3, d4⟩, _⟩ := cells5 H5.out.1
      refine bodyPost_ret (v := .agg #[.string nm, .int .u32 mj, .int .u32 mn, .string fl, .string ks]) ?_ rfl ⟨by rw [HS.out], ?_⟩
      · simp only [Nat.zero_add] at d1 d2 d3 d4
        simp [results, Tryd.results37, go_sem, d0, d1, d2, d3, d4]
      · exact HK.out.trans H5.out.2 (fun k hk h => by have := HX.out; omega)


theorem field_fl (nm fl ks : ByteArray) (mj mn : Int) (w : World) : (Instr.field 83 (.agg #[.string nm, .int .u32 mj, .int .u32 mn, .string fl, .string ks]) 3).run Tryd.prog w = .ok (.string fl) w := by kernel_rfl
theorem field_ks (nm fl ks : ByteArray) (mj mn : Int) (w : World) : (Instr.field 83 (.agg #[.string nm, .int .u32 mj, .int .u32 mn, .string fl, .string ks]) 4).run Tryd.prog w = .ok (.string ks) w := by kernel_rfl
theorem kd_lt (op : Nat) (h : op < 54) : (Cd.row op).kd < 6 := by
  have : ∀ o : Fin 54, (Cd.row o.val).kd < 6 := by decide
  exact this ⟨op, h⟩
set_option maxRecDepth 100000 in
theorem Kind_any (op : Nat) (h : op < 54) (w : World) :
    Calls Tryd.prog 13 #[.int .i64 op] w fun e w' => e = .returned (.string ⟨(Cd.kindS (Cd.kd op)).toArray⟩) ∧ Keeps (fun _ => False) w w' := by
  by_cases h0 : op = 0
  · subst h0
    go_enter Tryd.func13, Tryd.ntmps13
    go_wp2_with fail
    go_ret
    exact ⟨rfl, Keeps.refl _ _⟩
  · have t0 : ((op : Int) == 0) = false := by simpa using h0
    have hk : Cd.kd op = (Cd.row op).kd := if_neg h0
    rw [hk]
    have hS : shapeV op = .agg #[.string ⟨(Cd.row op).name.toArray⟩, .int .u32 (Cd.row op).major, .int .u32 (Cd.row op).minor, .string ⟨(Cd.row op).fields.toArray⟩, .string ⟨(Cd.kindS (Cd.row op).kd).toArray⟩] := rfl
    generalize (⟨(Cd.row op).name.toArray⟩ : ByteArray) = nm at *
    generalize (⟨(Cd.row op).fields.toArray⟩ : ByteArray) = fl at *
    generalize (⟨(Cd.kindS (Cd.row op).kd).toArray⟩ : ByteArray) = ks at *
    generalize ((Cd.row op).major : Int) = mj at *
    generalize ((Cd.row op).minor : Int) = mn at *
    have HS := Lib.hid hS
    clear h0 hk hS
    go_enter Tryd.func13, Tryd.ntmps13
    go_wp2_with fail
    refine (of_any op h _).mono ?_
    rintro e w' ⟨rfl, hk⟩
    rw [HS.out]
    have hf := field_ks nm fl ks mj mn w'
    go_wp2_with fail
    go_ret
    exact ⟨rfl, hk⟩
set_option maxRecDepth 100000 in
theorem Fields_any (op : Nat) (h : op < 54) (w : World) :
    Calls Tryd.prog 76 #[.int .i64 op] w fun e w' => e = .returned (.string ⟨(Cd.row op).fields.toArray⟩) ∧ Keeps (fun _ => False) w w' := by
  have hS : shapeV op = .agg #[.string ⟨(Cd.row op).name.toArray⟩, .int .u32 (Cd.row op).major, .int .u32 (Cd.row op).minor, .string ⟨(Cd.row op).fields.toArray⟩, .string ⟨(Cd.kindS (Cd.row op).kd).toArray⟩] := rfl
  generalize (⟨(Cd.row op).name.toArray⟩ : ByteArray) = nm at *
  generalize (⟨(Cd.row op).fields.toArray⟩ : ByteArray) = fl at *
  generalize (⟨(Cd.kindS (Cd.row op).kd).toArray⟩ : ByteArray) = ks at *
  generalize ((Cd.row op).major : Int) = mj at *
  generalize ((Cd.row op).minor : Int) = mn at *
  have HS := Lib.hid hS
  clear hS
  go_enter Tryd.func76, Tryd.ntmps76
  go_wp2_with fail
  refine (of_any op h _).mono ?_
  rintro e w' ⟨rfl, hk⟩
  rw [HS.out]
  have hf := field_fl nm fl ks mj mn w'
  go_wp2_with fail
  go_ret
  exact ⟨rfl, hk⟩

/-- a field's letter -/
def Letter (c : UInt8) : Prop := c = 83 ∨ c = 84 ∨ c = 68 ∨ c = 97 ∨ c = 105 ∨ c = 106
theorem ret_ii {a b c d : Int} (h : a = b) (h' : c = d) : Ending.returned (.tuple #[.int .i64 a, .int .i64 c]) = .returned (.tuple #[.int .i64 b, .int .i64 d]) := by rw [h, h']
theorem place_any (c : UInt8) (h : Letter c) (w : World) :
    Calls Tryd.prog 62 #[.int .i32 c.toNat] w fun e w' => e = .returned (.tuple #[.int .i64 (Cd.up c), .int .i64 (Cd.wd c)]) ∧ w = w' := by
  rcases h with rfl | rfl | rfl | rfl | rfl | rfl
  all_goals
    show Calls _ _ #[.int .i32 _] w _
    simp only [UInt8.reduceToNat]
    go_enter Tryd.func62, Tryd.ntmps62
    go_wp2_with fail
    go_ret2
    exact ⟨ret_ii (by decide) (by decide), rfl⟩
end Go.Proofs.YtlbdkcnbgdmpaaaDoor
