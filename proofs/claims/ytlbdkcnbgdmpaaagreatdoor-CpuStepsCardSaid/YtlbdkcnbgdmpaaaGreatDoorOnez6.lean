import Derived.Test.YtlbdkcnbgdmpaaaGreatDoorOnez5
import Derived.Test.YtlbdkcnbgdmpaaaGreatDoorOnez0
import Derived.Laws.BitsAllLaws
import Derived.KernelRfl
import Derived.Laws.RangeString
import Derived.StillTailTactics

/- CodeOf -/
/- The walks of code.of, Kind, Fields, place, fixed. -/
namespace Go.Proofs.YtlbdkcnbgdmpaaaGreatDoor
open Go.RowKit Go.Deep
set_option linter.unusedVariables false

set_option maxRecDepth 100000 in
set_option maxHeartbeats 1000000 in
theorem of_any (op : Nat) (h : op < 54) (w : World) :
    Calls Tryz.prog 48 #[.int .i64 op] w fun e w' => e = .returned (shapeV op) ∧ Keeps (fun _ => False) w w' := by
  by_cases h1 : 29 ≤ op
  · have t1 : decide ((29 : Int) ≤ op) = true := by simp; omega
    go_enter Tryz.func48, Tryz.ntmps48
    go_wp2_with fail
    refine (of2_any op h1 h _).mono ?_
    rintro e w' ⟨rfl, hk⟩
    have K := Keeps.trans ((Keeps.refl (fun _ => False) w).alloc _) hk (fun _ _ h => h)
    have hb := (hk.block w.heap.size (by simp) (fun h => h)).trans (blk_alloc_new w _)
    have hl : w.heap.size < w'.heap.size := by have := hk.size; simp at this; omega
    obtain ⟨⟨c0, c1, c2, c3, c4⟩, f0, f1, f2, f3, f4⟩ := cells5 hb
    have hS : shapeV op = .agg #[.string ⟨(Cd.row op).name.toArray⟩, .int .u32 (Cd.row op).major, .int .u32 (Cd.row op).minor, .string ⟨(Cd.row op).fields.toArray⟩, .string ⟨(Cd.kindS (Cd.row op).kd).toArray⟩] := rfl
    generalize (⟨(Cd.row op).name.toArray⟩ : ByteArray) = nm at *
    generalize (⟨(Cd.row op).fields.toArray⟩ : ByteArray) = fl at *
    generalize (⟨(Cd.kindS (Cd.row op).kd).toArray⟩ : ByteArray) = ks at *
    generalize ((Cd.row op).major : Int) = mj at *
    generalize ((Cd.row op).minor : Int) = mn at *
    rw [hS]
    have HS := Lib.hid hS
    have H5 := Lib.hid (set5 (a' := .string nm) (b' := .int .u32 mj) (c' := .int .u32 mn) (d' := .string fl) (e' := .string ks) hb)
    have HK := Lib.hid K
    clear hk hb hS K
    generalize hx : w.heap.size = x at *
    have HX := Lib.hid hx
    clear hx
    go_wp2_with fail
    generalize (((((w'.setCell ⟨x, 0, none⟩ (.string nm)).setCell ⟨x, 1, none⟩ (.int .u32 mj)).setCell ⟨x, 2, none⟩ (.int .u32 mn)).setCell ⟨x, 3, none⟩ (.string fl)).setCell ⟨x, 4, none⟩ (.string ks)) = W at *
    obtain ⟨⟨d0, d1, d2, d3, d4⟩, _⟩ := cells5 H5.out.1
    refine bodyPost_ret (v := .agg #[.string nm, .int .u32 mj, .int .u32 mn, .string fl, .string ks]) ?_ rfl ⟨by rw [HS.out], ?_⟩
    · simp only [Nat.zero_add] at d1 d2 d3 d4
      simp [results, Tryz.results48, go_sem, d0, d1, d2, d3, d4]
    · exact HK.out.trans H5.out.2 (fun k hk h => by have := HX.out; omega)
  · by_cases h2 : 15 ≤ op
    · have t1 : decide ((29 : Int) ≤ op) = false := by simp; omega
      have t2 : decide ((15 : Int) ≤ op) = true := by simp; omega
      go_enter Tryz.func48, Tryz.ntmps48
      go_wp2_with fail
      refine (of1_any op h2 (by omega) _).mono ?_
      rintro e w' ⟨rfl, hk⟩
      have K := Keeps.trans ((Keeps.refl (fun _ => False) w).alloc _) hk (fun _ _ h => h)
      have hb := (hk.block w.heap.size (by simp) (fun h => h)).trans (blk_alloc_new w _)
      have hl : w.heap.size < w'.heap.size := by have := hk.size; simp at this; omega
      obtain ⟨⟨c0, c1, c2, c3, c4⟩, f0, f1, f2, f3, f4⟩ := cells5 hb
      have hS : shapeV op = .agg #[.string ⟨(Cd.row op).name.toArray⟩, .int .u32 (Cd.row op).major, .int .u32 (Cd.row op).minor, .string ⟨(Cd.row op).fields.toArray⟩, .string ⟨(Cd.kindS (Cd.row op).kd).toArray⟩] := rfl
      generalize (⟨(Cd.row op).name.toArray⟩ : ByteArray) = nm at *
      generalize (⟨(Cd.row op).fields.toArray⟩ : ByteArray) = fl at *
      generalize (⟨(Cd.kindS (Cd.row op).kd).toArray⟩ : ByteArray) = ks at *
      generalize ((Cd.row op).major : Int) = mj at *
      generalize ((Cd.row op).minor : Int) = mn at *
      rw [hS]
      have HS := Lib.hid hS
      have H5 := Lib.hid (set5 (a' := .string nm) (b' := .int .u32 mj) (c' := .int .u32 mn) (d' := .string fl) (e' := .string ks) hb)
      have HK := Lib.hid K
      clear hk hb hS K
      generalize hx : w.heap.size = x at *
      have HX := Lib.hid hx
      clear hx
      go_wp2_with fail
      generalize (((((w'.setCell ⟨x, 0, none⟩ (.string nm)).setCell ⟨x, 1, none⟩ (.int .u32 mj)).setCell ⟨x, 2, none⟩ (.int .u32 mn)).setCell ⟨x, 3, none⟩ (.string fl)).setCell ⟨x, 4, none⟩ (.string ks)) = W at *
      obtain ⟨⟨d0, d1, d2, d3, d4⟩, _⟩ := cells5 H5.out.1
      refine bodyPost_ret (v := .agg #[.string nm, .int .u32 mj, .int .u32 mn, .string fl, .string ks]) ?_ rfl ⟨by rw [HS.out], ?_⟩
      · simp only [Nat.zero_add] at d1 d2 d3 d4
        simp [results, Tryz.results48, go_sem, d0, d1, d2, d3, d4]
      · exact HK.out.trans H5.out.2 (fun k hk h => by have := HX.out; omega)
    · have t1 : decide ((29 : Int) ≤ op) = false := by simp; omega
      have t2 : decide ((15 : Int) ≤ op) = false := by simp; omega
      go_enter Tryz.func48, Tryz.ntmps48
      go_wp2_with fail
      refine (of0_any op (Nat.zero_le _) (by omega) _).mono ?_
      rintro e w' ⟨rfl, hk⟩
      have K := Keeps.trans ((Keeps.refl (fun _ => False) w).alloc _) hk (fun _ _ h => h)
      have hb := (hk.block w.heap.size (by simp) (fun h => h)).trans (blk_alloc_new w _)
      have hl : w.heap.size < w'.heap.size := by have := hk.size; simp at this; omega
      obtain ⟨⟨c0, c1, c2, c3, c4⟩, f0, f1, f2, f3, f4⟩ := cells5 hb
      have hS : shapeV op = .agg #[.string ⟨(Cd.row op).name.toArray⟩, .int .u32 (Cd.row op).major, .int .u32 (Cd.row op).minor, .string ⟨(Cd.row op).fields.toArray⟩, .string ⟨(Cd.kindS (Cd.row op).kd).toArray⟩] := rfl
      generalize (⟨(Cd.row op).name.toArray⟩ : ByteArray) = nm at *
      generalize (⟨(Cd.row op).fields.toArray⟩ : ByteArray) = fl at *
      generalize (⟨(Cd.kindS (Cd.row op).kd).toArray⟩ : ByteArray) = ks at *
      generalize ((Cd.row op).major : Int) = mj at *
      generalize ((Cd.row op).minor : Int) = mn at *
      rw [hS]
      have HS := Lib.hid hS
      have H5 := Lib.hid (set5 (a' := .string nm) (b' := .int .u32 mj) (c' := .int .u32 mn) (d' := .string fl) (e' := .string ks) hb)
      have HK := Lib.hid K
      clear hk hb hS K
      generalize hx : w.heap.size = x at *
      have HX := Lib.hid hx
      clear hx
      go_wp2_with fail
      generalize (((((w'.setCell ⟨x, 0, none⟩ (.string nm)).setCell ⟨x, 1, none⟩ (.int .u32 mj)).setCell ⟨x, 2, none⟩ (.int .u32 mn)).setCell ⟨x, 3, none⟩ (.string fl)).setCell ⟨x, 4, none⟩ (.string ks)) = W at *
      obtain ⟨⟨d0, d1, d2, d3, d4⟩, _⟩ := cells5 H5.out.1
      refine bodyPost_ret (v := .agg #[.string nm, .int .u32 mj, .int .u32 mn, .string fl, .string ks]) ?_ rfl ⟨by rw [HS.out], ?_⟩
      · simp only [Nat.zero_add] at d1 d2 d3 d4
        simp [results, Tryz.results48, go_sem, d0, d1, d2, d3, d4]
      · exact HK.out.trans H5.out.2 (fun k hk h => by have := HX.out; omega)


theorem field_fl (nm fl ks : ByteArray) (mj mn : Int) (w : World) : (Instr.field 97 (.agg #[.string nm, .int .u32 mj, .int .u32 mn, .string fl, .string ks]) 3).run Tryz.prog w = .ok (.string fl) w := by kernel_rfl
theorem field_ks (nm fl ks : ByteArray) (mj mn : Int) (w : World) : (Instr.field 97 (.agg #[.string nm, .int .u32 mj, .int .u32 mn, .string fl, .string ks]) 4).run Tryz.prog w = .ok (.string ks) w := by kernel_rfl
theorem kd_lt (op : Nat) (h : op < 54) : (Cd.row op).kd < 6 := by
  have : ∀ o : Fin 54, (Cd.row o.val).kd < 6 := by decide
  exact this ⟨op, h⟩
set_option maxRecDepth 100000 in
theorem Kind_any (op : Nat) (h : op < 54) (w : World) :
    Calls Tryz.prog 53 #[.int .i64 op] w fun e w' => e = .returned (.string ⟨(Cd.kindS (Cd.kd op)).toArray⟩) ∧ Keeps (fun _ => False) w w' := by
  by_cases h0 : op = 0
  · subst h0
    go_enter Tryz.func53, Tryz.ntmps53
    go_wp2_with fail
    go_ret
    exact ⟨rfl, Keeps.refl _ _⟩
  · have t0 : ((op : Int) == 0) = false := by simpa using h0
    have hk : Cd.kd op = (Cd.row op).kd := if_neg h0
    rw [hk]
    have hS : shapeV op = .agg #[.string ⟨(Cd.row op).name.toArray⟩, .int .u32 (Cd.row op).major, .int .u32 (Cd.row op).minor, .string ⟨(Cd.row op).fields.toArray⟩, .string ⟨(Cd.kindS (Cd.row op).kd).toArray⟩] := rfl
    generalize (⟨(Cd.row op).name.toArray⟩ : ByteArray) = nm at *
    generalize (⟨(Cd.row op).fields.toArray⟩ : ByteArray) = fl at *
    generalize (⟨(Cd.kindS (Cd.row op).kd).toArray⟩ : ByteArray) = ks at *
    generalize ((Cd.row op).major : Int) = mj at *
    generalize ((Cd.row op).minor : Int) = mn at *
    have HS := Lib.hid hS
    clear h0 hk hS
    go_enter Tryz.func53, Tryz.ntmps53
    go_wp2_with fail
    refine (of_any op h _).mono ?_
    rintro e w' ⟨rfl, hk⟩
    rw [HS.out]
    have hf := field_ks nm fl ks mj mn w'
    go_wp2_with fail
    go_ret
    exact ⟨rfl, hk⟩
set_option maxRecDepth 100000 in
theorem Fields_any (op : Nat) (h : op < 54) (w : World) :
    Calls Tryz.prog 58 #[.int .i64 op] w fun e w' => e = .returned (.string ⟨(Cd.row op).fields.toArray⟩) ∧ Keeps (fun _ => False) w w' := by
  have hS : shapeV op = .agg #[.string ⟨(Cd.row op).name.toArray⟩, .int .u32 (Cd.row op).major, .int .u32 (Cd.row op).minor, .string ⟨(Cd.row op).fields.toArray⟩, .string ⟨(Cd.kindS (Cd.row op).kd).toArray⟩] := rfl
  generalize (⟨(Cd.row op).name.toArray⟩ : ByteArray) = nm at *
  generalize (⟨(Cd.row op).fields.toArray⟩ : ByteArray) = fl at *
  generalize (⟨(Cd.kindS (Cd.row op).kd).toArray⟩ : ByteArray) = ks at *
  generalize ((Cd.row op).major : Int) = mj at *
  generalize ((Cd.row op).minor : Int) = mn at *
  have HS := Lib.hid hS
  clear hS
  go_enter Tryz.func58, Tryz.ntmps58
  go_wp2_with fail
  refine (of_any op h _).mono ?_
  rintro e w' ⟨rfl, hk⟩
  rw [HS.out]
  have hf := field_fl nm fl ks mj mn w'
  go_wp2_with fail
  go_ret
  exact ⟨rfl, hk⟩

/-- a field's letter -/
def Letter (c : UInt8) : Prop := c = 83 ∨ c = 84 ∨ c = 68 ∨ c = 97 ∨ c = 105 ∨ c = 106
theorem ret_ii {a b c d : Int} (h : a = b) (h' : c = d) : Ending.returned (.tuple #[.int .i64 a, .int .i64 c]) = .returned (.tuple #[.int .i64 b, .int .i64 d]) := by rw [h, h']
theorem place_any (c : UInt8) (h : Letter c) (w : World) :
    Calls Tryz.prog 51 #[.int .i32 c.toNat] w fun e w' => e = .returned (.tuple #[.int .i64 (Cd.up c), .int .i64 (Cd.wd c)]) ∧ w = w' := by
  rcases h with rfl | rfl | rfl | rfl | rfl | rfl
  all_goals
    show Calls _ _ #[.int .i32 _] w _
    simp only [UInt8.reduceToNat]
    go_enter Tryz.func51, Tryz.ntmps51
    go_wp2_with fail
    go_ret2
    exact ⟨ret_ii (by decide) (by decide), rfl⟩
end Go.Proofs.YtlbdkcnbgdmpaaaGreatDoor

/- CodeTest -/
/- The test by which a word is of a row, as the program has it and as the reference has it. No program in sight. -/
namespace Go.Proofs.YtlbdkcnbgdmpaaaGreatDoor
open Go.RowKit
set_option linter.unusedVariables false

/-- a field's bits -/
def fmask (c : UInt8) : Int := if c = 83 then 65011712 else if c = 84 then 2031616 else if c = 68 then 63488 else if c = 97 then 1984 else if c = 105 then 65535 else 67108863
def maskOf (l : List UInt8) : Int := l.foldl (fun m c => bits .or .u32 m (fmask c)) 0
def fixV (mj mn : Int) : Int := if mj = 0 then mn else if mj = 16 then 1073741824 + mn * 2097152 + (if mn = 16 then 24 else 0) else mj * 67108864
namespace Cd
theorem and6 (a s t d h f ca cs ct cd ch cf : Nat) (h1 : s < 32) (h2 : t < 32) (h3 : d < 32) (h4 : h < 32) (h5 : f < 64) (g1 : cs < 32) (g2 : ct < 32) (g3 : cd < 32) (g4 : ch < 32) (g5 : cf < 64) :
    (((((a * 32 + s) * 32 + t) * 32 + d) * 32 + h) * 64 + f) &&& (((((ca * 32 + cs) * 32 + ct) * 32 + cd) * 32 + ch) * 64 + cf) = (((((a &&& ca) * 32 + (s &&& cs)) * 32 + (t &&& ct)) * 32 + (d &&& cd)) * 32 + (h &&& ch)) * 64 + (f &&& cf) := by
  have e5 := and_split 6 ((((a * 32 + s) * 32 + t) * 32 + d) * 32 + h) f ((((ca * 32 + cs) * 32 + ct) * 32 + cd) * 32 + ch) cf h5 g5
  have e4 := and_split 5 (((a * 32 + s) * 32 + t) * 32 + d) h (((ca * 32 + cs) * 32 + ct) * 32 + cd) ch h4 g4
  have e3 := and_split 5 ((a * 32 + s) * 32 + t) d ((ca * 32 + cs) * 32 + ct) cd h3 g3
  have e2 := and_split 5 (a * 32 + s) t (ca * 32 + cs) ct h2 g2
  have e1 := and_split 5 a s ca cs h1 g1
  simp only [Nat.reducePow] at e1 e2 e3 e4 e5
  rw [e5, e4, e3, e2, e1]
set_option maxHeartbeats 1000000 in
/-- what is left of a word when some of its fields are struck -/
theorem strike (w : Int) (hw : 0 ≤ w ∧ w < 4294967296) (M : Int) (hM : 0 ≤ M ∧ M < 4294967296) (cs ct cd ch cf : Nat) (hc : (4294967295 - M.toNat) = ((((63 * 32 + cs) * 32 + ct) * 32 + cd) * 32 + ch) * 64 + cf)
    (gs : cs = 0 ∨ cs = 31) (gt : ct = 0 ∨ ct = 31) (gd : cd = 0 ∨ cd = 31) (gh : ch = 0 ∨ ch = 31) (gf : cf = 0 ∨ cf = 63) :
    bits .andNot .u32 w M = w / 67108864 * 67108864 + (if cs = 0 then 0 else w / 2097152 % 32) * 2097152 + (if ct = 0 then 0 else w / 65536 % 32) * 65536 + (if cd = 0 then 0 else w / 2048 % 32) * 2048 + (if ch = 0 then 0 else w / 64 % 32) * 64 + (if cf = 0 then 0 else w % 64) := by
  rw [u32_andNot w M hw.1 hw.2 hM.1 hM.2, hc]
  obtain ⟨n, rfl⟩ := Int.eq_ofNat_of_zero_le hw.1
  rw [Int.toNat_natCast]
  have hn : n = ((((n / 67108864 * 32 + n / 2097152 % 32) * 32 + n / 65536 % 32) * 32 + n / 2048 % 32) * 32 + n / 64 % 32) * 64 + n % 64 := by omega
  have e := and6 (n / 67108864) (n / 2097152 % 32) (n / 65536 % 32) (n / 2048 % 32) (n / 64 % 32) (n % 64) 63 cs ct cd ch cf (by omega) (by omega) (by omega) (by omega) (by omega) (by omega) (by omega) (by omega) (by omega) (by omega)
  rw [← hn] at e
  rw [e]
  have ha : n / 67108864 &&& 63 = n / 67108864 := and_ones 6 _ (by omega)
  have z : ∀ x c b : Nat, x < 2 ^ b → (c = 0 ∨ c = 2 ^ b - 1) → x &&& c = if c = 0 then 0 else x := by
    intro x c b hx hcb
    rcases hcb with rfl | h
    · rw [if_pos rfl, Nat.and_zero]
    · by_cases h0 : c = 0
      · rw [if_pos h0, h0, Nat.and_zero]
      · rw [if_neg h0, h, and_ones b x hx]
  rw [ha, z _ cs 5 (by omega) gs, z _ ct 5 (by omega) gt, z _ cd 5 (by omega) gd, z _ ch 5 (by omega) gh, z _ cf 6 (by omega) gf]
  have q : ∀ (c x : Nat), ((if c = 0 then 0 else x : Nat) : Int) = if c = 0 then 0 else (x : Int) := fun c x => by split <;> rfl
  have e1 := q cs (n / 2097152 % 32)
  have e2 := q ct (n / 65536 % 32)
  have e3 := q cd (n / 2048 % 32)
  have e4 := q ch (n / 64 % 32)
  have e5 := q cf (n % 64)
  simp only [Int.natCast_emod, Int.natCast_ediv, Int.cast_ofNat_Int] at e1 e2 e3 e4 e5
  rw [← e1, ← e2, ← e3, ← e4, ← e5]
  generalize (if cs = 0 then 0 else n / 2097152 % 32) = A
  generalize (if ct = 0 then 0 else n / 65536 % 32) = B
  generalize (if cd = 0 then 0 else n / 2048 % 32) = C
  generalize (if ch = 0 then 0 else n / 64 % 32) = D
  generalize (if cf = 0 then 0 else n % 64) = E
  clear e hn ha z q
  omega
end Cd
theorem mask_0 : maskOf [84, 68, 97] = 2097088 := by kernel_rfl
theorem strike_0 (w : Int) (hw : 0 ≤ w ∧ w < 4294967296) : bits .andNot .u32 w 2097088 = w / 67108864 * 67108864 + w / 2097152 % 32 * 2097152 + 0 * 65536 + 0 * 2048 + 0 * 64 + w % 64 :=
  Cd.strike w hw 2097088 (by decide) 31 0 0 0 63 (by decide) (by decide) (by decide) (by decide) (by decide) (by decide)
theorem mask_1 : maskOf [83, 84, 68] = 67106816 := by kernel_rfl
theorem strike_1 (w : Int) (hw : 0 ≤ w ∧ w < 4294967296) : bits .andNot .u32 w 67106816 = w / 67108864 * 67108864 + 0 * 2097152 + 0 * 65536 + 0 * 2048 + w / 64 % 32 * 64 + w % 64 :=
  Cd.strike w hw 67106816 (by decide) 0 0 0 31 63 (by decide) (by decide) (by decide) (by decide) (by decide) (by decide)
theorem mask_2 : maskOf [83] = 65011712 := by kernel_rfl
theorem strike_2 (w : Int) (hw : 0 ≤ w ∧ w < 4294967296) : bits .andNot .u32 w 65011712 = w / 67108864 * 67108864 + 0 * 2097152 + w / 65536 % 32 * 65536 + w / 2048 % 32 * 2048 + w / 64 % 32 * 64 + w % 64 :=
  Cd.strike w hw 65011712 (by decide) 0 31 31 31 63 (by decide) (by decide) (by decide) (by decide) (by decide) (by decide)
theorem mask_3 : maskOf [83, 68] = 65075200 := by kernel_rfl
theorem strike_3 (w : Int) (hw : 0 ≤ w ∧ w < 4294967296) : bits .andNot .u32 w 65075200 = w / 67108864 * 67108864 + 0 * 2097152 + w / 65536 % 32 * 65536 + 0 * 2048 + w / 64 % 32 * 64 + w % 64 :=
  Cd.strike w hw 65075200 (by decide) 0 31 0 31 63 (by decide) (by decide) (by decide) (by decide) (by decide) (by decide)
theorem mask_4 : maskOf [] = 0 := by kernel_rfl
theorem strike_4 (w : Int) (hw : 0 ≤ w ∧ w < 4294967296) : bits .andNot .u32 w 0 = w / 67108864 * 67108864 + w / 2097152 % 32 * 2097152 + w / 65536 % 32 * 65536 + w / 2048 % 32 * 2048 + w / 64 % 32 * 64 + w % 64 :=
  Cd.strike w hw 0 (by decide) 31 31 31 31 63 (by decide) (by decide) (by decide) (by decide) (by decide) (by decide)
theorem mask_5 : maskOf [68] = 63488 := by kernel_rfl
theorem strike_5 (w : Int) (hw : 0 ≤ w ∧ w < 4294967296) : bits .andNot .u32 w 63488 = w / 67108864 * 67108864 + w / 2097152 % 32 * 2097152 + w / 65536 % 32 * 65536 + 0 * 2048 + w / 64 % 32 * 64 + w % 64 :=
  Cd.strike w hw 63488 (by decide) 31 31 0 31 63 (by decide) (by decide) (by decide) (by decide) (by decide) (by decide)
theorem mask_6 : maskOf [83, 84] = 67043328 := by kernel_rfl
theorem strike_6 (w : Int) (hw : 0 ≤ w ∧ w < 4294967296) : bits .andNot .u32 w 67043328 = w / 67108864 * 67108864 + 0 * 2097152 + 0 * 65536 + w / 2048 % 32 * 2048 + w / 64 % 32 * 64 + w % 64 :=
  Cd.strike w hw 67043328 (by decide) 0 0 31 31 63 (by decide) (by decide) (by decide) (by decide) (by decide) (by decide)
theorem mask_7 : maskOf [106] = 67108863 := by kernel_rfl
theorem strike_7 (w : Int) (hw : 0 ≤ w ∧ w < 4294967296) : bits .andNot .u32 w 67108863 = w / 67108864 * 67108864 + 0 * 2097152 + 0 * 65536 + 0 * 2048 + 0 * 64 + 0 :=
  Cd.strike w hw 67108863 (by decide) 0 0 0 0 0 (by decide) (by decide) (by decide) (by decide) (by decide) (by decide)
theorem mask_8 : maskOf [83, 84, 105] = 67108863 := by kernel_rfl
theorem strike_8 (w : Int) (hw : 0 ≤ w ∧ w < 4294967296) : bits .andNot .u32 w 67108863 = w / 67108864 * 67108864 + 0 * 2097152 + 0 * 65536 + 0 * 2048 + 0 * 64 + 0 :=
  Cd.strike w hw 67108863 (by decide) 0 0 0 0 0 (by decide) (by decide) (by decide) (by decide) (by decide) (by decide)
theorem mask_9 : maskOf [83, 105] = 65077247 := by kernel_rfl
theorem strike_9 (w : Int) (hw : 0 ≤ w ∧ w < 4294967296) : bits .andNot .u32 w 65077247 = w / 67108864 * 67108864 + 0 * 2097152 + w / 65536 % 32 * 65536 + 0 * 2048 + 0 * 64 + 0 :=
  Cd.strike w hw 65077247 (by decide) 0 31 0 0 0 (by decide) (by decide) (by decide) (by decide) (by decide) (by decide)
theorem mask_10 : maskOf [84, 105] = 2097151 := by kernel_rfl
theorem strike_10 (w : Int) (hw : 0 ≤ w ∧ w < 4294967296) : bits .andNot .u32 w 2097151 = w / 67108864 * 67108864 + w / 2097152 % 32 * 2097152 + 0 * 65536 + 0 * 2048 + 0 * 64 + 0 :=
  Cd.strike w hw 2097151 (by decide) 31 0 0 0 0 (by decide) (by decide) (by decide) (by decide) (by decide) (by decide)
theorem mask_11 : maskOf [84, 68] = 2095104 := by kernel_rfl
theorem strike_11 (w : Int) (hw : 0 ≤ w ∧ w < 4294967296) : bits .andNot .u32 w 2095104 = w / 67108864 * 67108864 + w / 2097152 % 32 * 2097152 + 0 * 65536 + 0 * 2048 + w / 64 % 32 * 64 + w % 64 :=
  Cd.strike w hw 2095104 (by decide) 31 0 0 31 63 (by decide) (by decide) (by decide) (by decide) (by decide) (by decide)
/-- one row's test -/
def rowTest (w : Int) (r : Cd.Row) : Bool := decide (w / 67108864 = r.major) && decide (bits .andNot .u32 w (maskOf r.fields) = fixV r.major r.minor)
theorem test_1 (w : Int) (hw : 0 ≤ w ∧ w < 4294967296) : Cd.isRow w (Cd.row 1) = rowTest w (Cd.row 1) := by
  unfold Cd.isRow rowTest
  delta Cd.part
  simp only [Cd.row, mask_0, strike_0 w hw, Cd.has, Cd.low, Cd.mid, fixV]
  rw [Bool.eq_iff_iff]
  simp
  try omega
theorem test_2 (w : Int) (hw : 0 ≤ w ∧ w < 4294967296) : Cd.isRow w (Cd.row 2) = rowTest w (Cd.row 2) := by
  unfold Cd.isRow rowTest
  delta Cd.part
  simp only [Cd.row, mask_0, strike_0 w hw, Cd.has, Cd.low, Cd.mid, fixV]
  rw [Bool.eq_iff_iff]
  simp
  try omega
theorem test_3 (w : Int) (hw : 0 ≤ w ∧ w < 4294967296) : Cd.isRow w (Cd.row 3) = rowTest w (Cd.row 3) := by
  unfold Cd.isRow rowTest
  delta Cd.part
  simp only [Cd.row, mask_0, strike_0 w hw, Cd.has, Cd.low, Cd.mid, fixV]
  rw [Bool.eq_iff_iff]
  simp
  try omega
theorem test_4 (w : Int) (hw : 0 ≤ w ∧ w < 4294967296) : Cd.isRow w (Cd.row 4) = rowTest w (Cd.row 4) := by
  unfold Cd.isRow rowTest
  delta Cd.part
  simp only [Cd.row, mask_1, strike_1 w hw, Cd.has, Cd.low, Cd.mid, fixV]
  rw [Bool.eq_iff_iff]
  simp
  try omega
theorem test_5 (w : Int) (hw : 0 ≤ w ∧ w < 4294967296) : Cd.isRow w (Cd.row 5) = rowTest w (Cd.row 5) := by
  unfold Cd.isRow rowTest
  delta Cd.part
  simp only [Cd.row, mask_1, strike_1 w hw, Cd.has, Cd.low, Cd.mid, fixV]
  rw [Bool.eq_iff_iff]
  simp
  try omega
theorem test_6 (w : Int) (hw : 0 ≤ w ∧ w < 4294967296) : Cd.isRow w (Cd.row 6) = rowTest w (Cd.row 6) := by
  unfold Cd.isRow rowTest
  delta Cd.part
  simp only [Cd.row, mask_1, strike_1 w hw, Cd.has, Cd.low, Cd.mid, fixV]
  rw [Bool.eq_iff_iff]
  simp
  try omega
theorem test_19 (w : Int) (hw : 0 ≤ w ∧ w < 4294967296) : Cd.isRow w (Cd.row 19) = rowTest w (Cd.row 19) := by
  unfold Cd.isRow rowTest
  delta Cd.part
  simp only [Cd.row, mask_1, strike_1 w hw, Cd.has, Cd.low, Cd.mid, fixV]
  rw [Bool.eq_iff_iff]
  simp
  try omega
theorem test_20 (w : Int) (hw : 0 ≤ w ∧ w < 4294967296) : Cd.isRow w (Cd.row 20) = rowTest w (Cd.row 20) := by
  unfold Cd.isRow rowTest
  delta Cd.part
  simp only [Cd.row, mask_1, strike_1 w hw, Cd.has, Cd.low, Cd.mid, fixV]
  rw [Bool.eq_iff_iff]
  simp
  try omega
theorem test_21 (w : Int) (hw : 0 ≤ w ∧ w < 4294967296) : Cd.isRow w (Cd.row 21) = rowTest w (Cd.row 21) := by
  unfold Cd.isRow rowTest
  delta Cd.part
  simp only [Cd.row, mask_1, strike_1 w hw, Cd.has, Cd.low, Cd.mid, fixV]
  rw [Bool.eq_iff_iff]
  simp
  try omega
theorem test_22 (w : Int) (hw : 0 ≤ w ∧ w < 4294967296) : Cd.isRow w (Cd.row 22) = rowTest w (Cd.row 22) := by
  unfold Cd.isRow rowTest
  delta Cd.part
  simp only [Cd.row, mask_1, strike_1 w hw, Cd.has, Cd.low, Cd.mid, fixV]
  rw [Bool.eq_iff_iff]
  simp
  try omega
theorem test_23 (w : Int) (hw : 0 ≤ w ∧ w < 4294967296) : Cd.isRow w (Cd.row 23) = rowTest w (Cd.row 23) := by
  unfold Cd.isRow rowTest
  delta Cd.part
  simp only [Cd.row, mask_1, strike_1 w hw, Cd.has, Cd.low, Cd.mid, fixV]
  rw [Bool.eq_iff_iff]
  simp
  try omega
theorem test_24 (w : Int) (hw : 0 ≤ w ∧ w < 4294967296) : Cd.isRow w (Cd.row 24) = rowTest w (Cd.row 24) := by
  unfold Cd.isRow rowTest
  delta Cd.part
  simp only [Cd.row, mask_1, strike_1 w hw, Cd.has, Cd.low, Cd.mid, fixV]
  rw [Bool.eq_iff_iff]
  simp
  try omega
theorem test_25 (w : Int) (hw : 0 ≤ w ∧ w < 4294967296) : Cd.isRow w (Cd.row 25) = rowTest w (Cd.row 25) := by
  unfold Cd.isRow rowTest
  delta Cd.part
  simp only [Cd.row, mask_1, strike_1 w hw, Cd.has, Cd.low, Cd.mid, fixV]
  rw [Bool.eq_iff_iff]
  simp
  try omega
theorem test_26 (w : Int) (hw : 0 ≤ w ∧ w < 4294967296) : Cd.isRow w (Cd.row 26) = rowTest w (Cd.row 26) := by
  unfold Cd.isRow rowTest
  delta Cd.part
  simp only [Cd.row, mask_1, strike_1 w hw, Cd.has, Cd.low, Cd.mid, fixV]
  rw [Bool.eq_iff_iff]
  simp
  try omega
theorem test_27 (w : Int) (hw : 0 ≤ w ∧ w < 4294967296) : Cd.isRow w (Cd.row 27) = rowTest w (Cd.row 27) := by
  unfold Cd.isRow rowTest
  delta Cd.part
  simp only [Cd.row, mask_1, strike_1 w hw, Cd.has, Cd.low, Cd.mid, fixV]
  rw [Bool.eq_iff_iff]
  simp
  try omega
theorem test_28 (w : Int) (hw : 0 ≤ w ∧ w < 4294967296) : Cd.isRow w (Cd.row 28) = rowTest w (Cd.row 28) := by
  unfold Cd.isRow rowTest
  delta Cd.part
  simp only [Cd.row, mask_1, strike_1 w hw, Cd.has, Cd.low, Cd.mid, fixV]
  rw [Bool.eq_iff_iff]
  simp
  try omega
theorem test_7 (w : Int) (hw : 0 ≤ w ∧ w < 4294967296) : Cd.isRow w (Cd.row 7) = rowTest w (Cd.row 7) := by
  unfold Cd.isRow rowTest
  delta Cd.part
  simp only [Cd.row, mask_2, strike_2 w hw, Cd.has, Cd.low, Cd.mid, fixV]
  rw [Bool.eq_iff_iff]
  simp
  try omega
theorem test_12 (w : Int) (hw : 0 ≤ w ∧ w < 4294967296) : Cd.isRow w (Cd.row 12) = rowTest w (Cd.row 12) := by
  unfold Cd.isRow rowTest
  delta Cd.part
  simp only [Cd.row, mask_2, strike_2 w hw, Cd.has, Cd.low, Cd.mid, fixV]
  rw [Bool.eq_iff_iff]
  simp
  try omega
theorem test_14 (w : Int) (hw : 0 ≤ w ∧ w < 4294967296) : Cd.isRow w (Cd.row 14) = rowTest w (Cd.row 14) := by
  unfold Cd.isRow rowTest
  delta Cd.part
  simp only [Cd.row, mask_2, strike_2 w hw, Cd.has, Cd.low, Cd.mid, fixV]
  rw [Bool.eq_iff_iff]
  simp
  try omega
theorem test_8 (w : Int) (hw : 0 ≤ w ∧ w < 4294967296) : Cd.isRow w (Cd.row 8) = rowTest w (Cd.row 8) := by
  unfold Cd.isRow rowTest
  delta Cd.part
  simp only [Cd.row, mask_3, strike_3 w hw, Cd.has, Cd.low, Cd.mid, fixV]
  rw [Bool.eq_iff_iff]
  simp
  try omega
theorem test_9 (w : Int) (hw : 0 ≤ w ∧ w < 4294967296) : Cd.isRow w (Cd.row 9) = rowTest w (Cd.row 9) := by
  unfold Cd.isRow rowTest
  delta Cd.part
  simp only [Cd.row, mask_4, strike_4 w hw, Cd.has, Cd.low, Cd.mid, fixV]
  rw [Bool.eq_iff_iff]
  simp
  try omega
theorem test_10 (w : Int) (hw : 0 ≤ w ∧ w < 4294967296) : Cd.isRow w (Cd.row 10) = rowTest w (Cd.row 10) := by
  unfold Cd.isRow rowTest
  delta Cd.part
  simp only [Cd.row, mask_4, strike_4 w hw, Cd.has, Cd.low, Cd.mid, fixV]
  rw [Bool.eq_iff_iff]
  simp
  try omega
theorem test_45 (w : Int) (hw : 0 ≤ w ∧ w < 4294967296) : Cd.isRow w (Cd.row 45) = rowTest w (Cd.row 45) := by
  unfold Cd.isRow rowTest
  delta Cd.part
  simp only [Cd.row, mask_4, strike_4 w hw, Cd.has, Cd.low, Cd.mid, fixV]
  rw [Bool.eq_iff_iff]
  simp
  try omega
theorem test_11 (w : Int) (hw : 0 ≤ w ∧ w < 4294967296) : Cd.isRow w (Cd.row 11) = rowTest w (Cd.row 11) := by
  unfold Cd.isRow rowTest
  delta Cd.part
  simp only [Cd.row, mask_5, strike_5 w hw, Cd.has, Cd.low, Cd.mid, fixV]
  rw [Bool.eq_iff_iff]
  simp
  try omega
theorem test_13 (w : Int) (hw : 0 ≤ w ∧ w < 4294967296) : Cd.isRow w (Cd.row 13) = rowTest w (Cd.row 13) := by
  unfold Cd.isRow rowTest
  delta Cd.part
  simp only [Cd.row, mask_5, strike_5 w hw, Cd.has, Cd.low, Cd.mid, fixV]
  rw [Bool.eq_iff_iff]
  simp
  try omega
theorem test_15 (w : Int) (hw : 0 ≤ w ∧ w < 4294967296) : Cd.isRow w (Cd.row 15) = rowTest w (Cd.row 15) := by
  unfold Cd.isRow rowTest
  delta Cd.part
  simp only [Cd.row, mask_6, strike_6 w hw, Cd.has, Cd.low, Cd.mid, fixV]
  rw [Bool.eq_iff_iff]
  simp
  try omega
theorem test_16 (w : Int) (hw : 0 ≤ w ∧ w < 4294967296) : Cd.isRow w (Cd.row 16) = rowTest w (Cd.row 16) := by
  unfold Cd.isRow rowTest
  delta Cd.part
  simp only [Cd.row, mask_6, strike_6 w hw, Cd.has, Cd.low, Cd.mid, fixV]
  rw [Bool.eq_iff_iff]
  simp
  try omega
theorem test_17 (w : Int) (hw : 0 ≤ w ∧ w < 4294967296) : Cd.isRow w (Cd.row 17) = rowTest w (Cd.row 17) := by
  unfold Cd.isRow rowTest
  delta Cd.part
  simp only [Cd.row, mask_6, strike_6 w hw, Cd.has, Cd.low, Cd.mid, fixV]
  rw [Bool.eq_iff_iff]
  simp
  try omega
theorem test_18 (w : Int) (hw : 0 ≤ w ∧ w < 4294967296) : Cd.isRow w (Cd.row 18) = rowTest w (Cd.row 18) := by
  unfold Cd.isRow rowTest
  delta Cd.part
  simp only [Cd.row, mask_6, strike_6 w hw, Cd.has, Cd.low, Cd.mid, fixV]
  rw [Bool.eq_iff_iff]
  simp
  try omega
theorem test_29 (w : Int) (hw : 0 ≤ w ∧ w < 4294967296) : Cd.isRow w (Cd.row 29) = rowTest w (Cd.row 29) := by
  unfold Cd.isRow rowTest
  delta Cd.part
  simp only [Cd.row, mask_7, strike_7 w hw, Cd.has, Cd.low, Cd.mid, fixV]
  rw [Bool.eq_iff_iff]
  simp
  try omega
theorem test_30 (w : Int) (hw : 0 ≤ w ∧ w < 4294967296) : Cd.isRow w (Cd.row 30) = rowTest w (Cd.row 30) := by
  unfold Cd.isRow rowTest
  delta Cd.part
  simp only [Cd.row, mask_7, strike_7 w hw, Cd.has, Cd.low, Cd.mid, fixV]
  rw [Bool.eq_iff_iff]
  simp
  try omega
theorem test_31 (w : Int) (hw : 0 ≤ w ∧ w < 4294967296) : Cd.isRow w (Cd.row 31) = rowTest w (Cd.row 31) := by
  unfold Cd.isRow rowTest
  delta Cd.part
  simp only [Cd.row, mask_8, strike_8 w hw, Cd.has, Cd.low, Cd.mid, fixV]
  rw [Bool.eq_iff_iff]
  simp
  try omega
theorem test_32 (w : Int) (hw : 0 ≤ w ∧ w < 4294967296) : Cd.isRow w (Cd.row 32) = rowTest w (Cd.row 32) := by
  unfold Cd.isRow rowTest
  delta Cd.part
  simp only [Cd.row, mask_8, strike_8 w hw, Cd.has, Cd.low, Cd.mid, fixV]
  rw [Bool.eq_iff_iff]
  simp
  try omega
theorem test_35 (w : Int) (hw : 0 ≤ w ∧ w < 4294967296) : Cd.isRow w (Cd.row 35) = rowTest w (Cd.row 35) := by
  unfold Cd.isRow rowTest
  delta Cd.part
  simp only [Cd.row, mask_8, strike_8 w hw, Cd.has, Cd.low, Cd.mid, fixV]
  rw [Bool.eq_iff_iff]
  simp
  try omega
theorem test_36 (w : Int) (hw : 0 ≤ w ∧ w < 4294967296) : Cd.isRow w (Cd.row 36) = rowTest w (Cd.row 36) := by
  unfold Cd.isRow rowTest
  delta Cd.part
  simp only [Cd.row, mask_8, strike_8 w hw, Cd.has, Cd.low, Cd.mid, fixV]
  rw [Bool.eq_iff_iff]
  simp
  try omega
theorem test_37 (w : Int) (hw : 0 ≤ w ∧ w < 4294967296) : Cd.isRow w (Cd.row 37) = rowTest w (Cd.row 37) := by
  unfold Cd.isRow rowTest
  delta Cd.part
  simp only [Cd.row, mask_8, strike_8 w hw, Cd.has, Cd.low, Cd.mid, fixV]
  rw [Bool.eq_iff_iff]
  simp
  try omega
theorem test_38 (w : Int) (hw : 0 ≤ w ∧ w < 4294967296) : Cd.isRow w (Cd.row 38) = rowTest w (Cd.row 38) := by
  unfold Cd.isRow rowTest
  delta Cd.part
  simp only [Cd.row, mask_8, strike_8 w hw, Cd.has, Cd.low, Cd.mid, fixV]
  rw [Bool.eq_iff_iff]
  simp
  try omega
theorem test_39 (w : Int) (hw : 0 ≤ w ∧ w < 4294967296) : Cd.isRow w (Cd.row 39) = rowTest w (Cd.row 39) := by
  unfold Cd.isRow rowTest
  delta Cd.part
  simp only [Cd.row, mask_8, strike_8 w hw, Cd.has, Cd.low, Cd.mid, fixV]
  rw [Bool.eq_iff_iff]
  simp
  try omega
theorem test_40 (w : Int) (hw : 0 ≤ w ∧ w < 4294967296) : Cd.isRow w (Cd.row 40) = rowTest w (Cd.row 40) := by
  unfold Cd.isRow rowTest
  delta Cd.part
  simp only [Cd.row, mask_8, strike_8 w hw, Cd.has, Cd.low, Cd.mid, fixV]
  rw [Bool.eq_iff_iff]
  simp
  try omega
theorem test_41 (w : Int) (hw : 0 ≤ w ∧ w < 4294967296) : Cd.isRow w (Cd.row 41) = rowTest w (Cd.row 41) := by
  unfold Cd.isRow rowTest
  delta Cd.part
  simp only [Cd.row, mask_8, strike_8 w hw, Cd.has, Cd.low, Cd.mid, fixV]
  rw [Bool.eq_iff_iff]
  simp
  try omega
theorem test_46 (w : Int) (hw : 0 ≤ w ∧ w < 4294967296) : Cd.isRow w (Cd.row 46) = rowTest w (Cd.row 46) := by
  unfold Cd.isRow rowTest
  delta Cd.part
  simp only [Cd.row, mask_8, strike_8 w hw, Cd.has, Cd.low, Cd.mid, fixV]
  rw [Bool.eq_iff_iff]
  simp
  try omega
theorem test_47 (w : Int) (hw : 0 ≤ w ∧ w < 4294967296) : Cd.isRow w (Cd.row 47) = rowTest w (Cd.row 47) := by
  unfold Cd.isRow rowTest
  delta Cd.part
  simp only [Cd.row, mask_8, strike_8 w hw, Cd.has, Cd.low, Cd.mid, fixV]
  rw [Bool.eq_iff_iff]
  simp
  try omega
theorem test_48 (w : Int) (hw : 0 ≤ w ∧ w < 4294967296) : Cd.isRow w (Cd.row 48) = rowTest w (Cd.row 48) := by
  unfold Cd.isRow rowTest
  delta Cd.part
  simp only [Cd.row, mask_8, strike_8 w hw, Cd.has, Cd.low, Cd.mid, fixV]
  rw [Bool.eq_iff_iff]
  simp
  try omega
theorem test_49 (w : Int) (hw : 0 ≤ w ∧ w < 4294967296) : Cd.isRow w (Cd.row 49) = rowTest w (Cd.row 49) := by
  unfold Cd.isRow rowTest
  delta Cd.part
  simp only [Cd.row, mask_8, strike_8 w hw, Cd.has, Cd.low, Cd.mid, fixV]
  rw [Bool.eq_iff_iff]
  simp
  try omega
theorem test_50 (w : Int) (hw : 0 ≤ w ∧ w < 4294967296) : Cd.isRow w (Cd.row 50) = rowTest w (Cd.row 50) := by
  unfold Cd.isRow rowTest
  delta Cd.part
  simp only [Cd.row, mask_8, strike_8 w hw, Cd.has, Cd.low, Cd.mid, fixV]
  rw [Bool.eq_iff_iff]
  simp
  try omega
theorem test_51 (w : Int) (hw : 0 ≤ w ∧ w < 4294967296) : Cd.isRow w (Cd.row 51) = rowTest w (Cd.row 51) := by
  unfold Cd.isRow rowTest
  delta Cd.part
  simp only [Cd.row, mask_8, strike_8 w hw, Cd.has, Cd.low, Cd.mid, fixV]
  rw [Bool.eq_iff_iff]
  simp
  try omega
theorem test_52 (w : Int) (hw : 0 ≤ w ∧ w < 4294967296) : Cd.isRow w (Cd.row 52) = rowTest w (Cd.row 52) := by
  unfold Cd.isRow rowTest
  delta Cd.part
  simp only [Cd.row, mask_8, strike_8 w hw, Cd.has, Cd.low, Cd.mid, fixV]
  rw [Bool.eq_iff_iff]
  simp
  try omega
theorem test_53 (w : Int) (hw : 0 ≤ w ∧ w < 4294967296) : Cd.isRow w (Cd.row 53) = rowTest w (Cd.row 53) := by
  unfold Cd.isRow rowTest
  delta Cd.part
  simp only [Cd.row, mask_8, strike_8 w hw, Cd.has, Cd.low, Cd.mid, fixV]
  rw [Bool.eq_iff_iff]
  simp
  try omega
theorem test_33 (w : Int) (hw : 0 ≤ w ∧ w < 4294967296) : Cd.isRow w (Cd.row 33) = rowTest w (Cd.row 33) := by
  unfold Cd.isRow rowTest
  delta Cd.part
  simp only [Cd.row, mask_9, strike_9 w hw, Cd.has, Cd.low, Cd.mid, fixV]
  rw [Bool.eq_iff_iff]
  simp
  try omega
theorem test_34 (w : Int) (hw : 0 ≤ w ∧ w < 4294967296) : Cd.isRow w (Cd.row 34) = rowTest w (Cd.row 34) := by
  unfold Cd.isRow rowTest
  delta Cd.part
  simp only [Cd.row, mask_9, strike_9 w hw, Cd.has, Cd.low, Cd.mid, fixV]
  rw [Bool.eq_iff_iff]
  simp
  try omega
theorem test_42 (w : Int) (hw : 0 ≤ w ∧ w < 4294967296) : Cd.isRow w (Cd.row 42) = rowTest w (Cd.row 42) := by
  unfold Cd.isRow rowTest
  delta Cd.part
  simp only [Cd.row, mask_10, strike_10 w hw, Cd.has, Cd.low, Cd.mid, fixV]
  rw [Bool.eq_iff_iff]
  simp
  try omega
theorem test_43 (w : Int) (hw : 0 ≤ w ∧ w < 4294967296) : Cd.isRow w (Cd.row 43) = rowTest w (Cd.row 43) := by
  unfold Cd.isRow rowTest
  delta Cd.part
  simp only [Cd.row, mask_11, strike_11 w hw, Cd.has, Cd.low, Cd.mid, fixV]
  rw [Bool.eq_iff_iff]
  simp
  try omega
theorem test_44 (w : Int) (hw : 0 ≤ w ∧ w < 4294967296) : Cd.isRow w (Cd.row 44) = rowTest w (Cd.row 44) := by
  unfold Cd.isRow rowTest
  delta Cd.part
  simp only [Cd.row, mask_11, strike_11 w hw, Cd.has, Cd.low, Cd.mid, fixV]
  rw [Bool.eq_iff_iff]
  simp
  try omega
theorem row_test (w : Int) (hw : 0 ≤ w ∧ w < 4294967296) (op : Nat) (h1 : 1 ≤ op) (h2 : op < 54) : Cd.isRow w (Cd.row op) = rowTest w (Cd.row op) := by
  have : op = 1 ∨ op = 2 ∨ op = 3 ∨ op = 4 ∨ op = 5 ∨ op = 6 ∨ op = 7 ∨ op = 8 ∨ op = 9 ∨ op = 10 ∨ op = 11 ∨ op = 12 ∨ op = 13 ∨ op = 14 ∨ op = 15 ∨ op = 16 ∨ op = 17 ∨ op = 18 ∨ op = 19 ∨ op = 20 ∨ op = 21 ∨ op = 22 ∨ op = 23 ∨ op = 24 ∨ op = 25 ∨ op = 26 ∨ op = 27 ∨ op = 28 ∨ op = 29 ∨ op = 30 ∨ op = 31 ∨ op = 32 ∨ op = 33 ∨ op = 34 ∨ op = 35 ∨ op = 36 ∨ op = 37 ∨ op = 38 ∨ op = 39 ∨ op = 40 ∨ op = 41 ∨ op = 42 ∨ op = 43 ∨ op = 44 ∨ op = 45 ∨ op = 46 ∨ op = 47 ∨ op = 48 ∨ op = 49 ∨ op = 50 ∨ op = 51 ∨ op = 52 ∨ op = 53 := by omega
  rcases this with rfl | rfl | rfl | rfl | rfl | rfl | rfl | rfl | rfl | rfl | rfl | rfl | rfl | rfl | rfl | rfl | rfl | rfl | rfl | rfl | rfl | rfl | rfl | rfl | rfl | rfl | rfl | rfl | rfl | rfl | rfl | rfl | rfl | rfl | rfl | rfl | rfl | rfl | rfl | rfl | rfl | rfl | rfl | rfl | rfl | rfl | rfl | rfl | rfl | rfl | rfl | rfl | rfl
  · exact test_1 w hw
  · exact test_2 w hw
  · exact test_3 w hw
  · exact test_4 w hw
  · exact test_5 w hw
  · exact test_6 w hw
  · exact test_7 w hw
  · exact test_8 w hw
  · exact test_9 w hw
  · exact test_10 w hw
  · exact test_11 w hw
  · exact test_12 w hw
  · exact test_13 w hw
  · exact test_14 w hw
  · exact test_15 w hw
  · exact test_16 w hw
  · exact test_17 w hw
  · exact test_18 w hw
  · exact test_19 w hw
  · exact test_20 w hw
  · exact test_21 w hw
  · exact test_22 w hw
  · exact test_23 w hw
  · exact test_24 w hw
  · exact test_25 w hw
  · exact test_26 w hw
  · exact test_27 w hw
  · exact test_28 w hw
  · exact test_29 w hw
  · exact test_30 w hw
  · exact test_31 w hw
  · exact test_32 w hw
  · exact test_33 w hw
  · exact test_34 w hw
  · exact test_35 w hw
  · exact test_36 w hw
  · exact test_37 w hw
  · exact test_38 w hw
  · exact test_39 w hw
  · exact test_40 w hw
  · exact test_41 w hw
  · exact test_42 w hw
  · exact test_43 w hw
  · exact test_44 w hw
  · exact test_45 w hw
  · exact test_46 w hw
  · exact test_47 w hw
  · exact test_48 w hw
  · exact test_49 w hw
  · exact test_50 w hw
  · exact test_51 w hw
  · exact test_52 w hw
  · exact test_53 w hw
end Go.Proofs.YtlbdkcnbgdmpaaaGreatDoor

/- Mask -/
/- The walks of mask, fixed, lay. -/
namespace Go.Proofs.YtlbdkcnbgdmpaaaGreatDoor
open Go.RowKit Go.Deep
set_option linter.unusedVariables false

theorem maskOf_take (l : List UInt8) (k : Nat) (h : k < l.length) : maskOf (l.take (k + 1)) = bits .or .u32 (maskOf (l.take k)) (fmask l[k]) := by
  unfold maskOf
  rw [List.take_succ_eq_append_getElem h, List.foldl_append]
  rfl
/-- where a text's iterator stands -/
def iterAt (w : World) (b : Nat) : Nat := match w.heap[b]? with
  | some (.stringIter _ p) => p
  | _ => 0
theorem iterAt_iter (w : World) (y : Nat) (hy : w.heap.size = y) (s : ByteArray) (p : Nat) : iterAt (w.iter s p) y = p := by
  subst hy
  unfold iterAt
  rw [World.iter_heap]
theorem next_at (w : World) (y : Nat) (hy : w.heap.size = y) (l : List UInt8) (k : Nat) (ty : TypeId) (h : k < l.length) (c : UInt8) (hc : l[k] = c) (ha : c.toNat < 128) (n : Int) (hn : (c.toNat : Int) = n) :
    (Instr.next (.pointer (some ⟨y, 0, none⟩)) true ty).run Tryz.prog (w.iter ⟨l.toArray⟩ k) = .ok (.tuple #[.bool true, .int .i64 k, .int .i32 n]) (w.iter ⟨l.toArray⟩ (k + 1)) := by
  subst hy
  have e : (⟨l.toArray⟩ : ByteArray)[k]'h = c := hc
  have := run_next_ascii (P := Tryz.prog) w ⟨l.toArray⟩ k ty h (by rw [e]; exact ha)
  rw [this, e, hn]
theorem next_end (w : World) (y : Nat) (hy : w.heap.size = y) (l : List UInt8) (k : Nat) (ty : TypeId) (h : ¬ k < l.length) :
    (Instr.next (.pointer (some ⟨y, 0, none⟩)) true ty).run Tryz.prog (w.iter ⟨l.toArray⟩ k) = .ok (.tuple #[.bool false]) (w.iter ⟨l.toArray⟩ k) :=
  hy ▸ run_next_end (P := Tryz.prog) w ⟨l.toArray⟩ k ty h

theorem place_83 (w : World) : Calls Tryz.prog 51 #[.int .i32 83] w fun e w' => e = .returned (.tuple #[.int .i64 21, .int .i64 5]) ∧ w = w' := place_any 83 (by unfold Letter; decide) w
theorem place_84 (w : World) : Calls Tryz.prog 51 #[.int .i32 84] w fun e w' => e = .returned (.tuple #[.int .i64 16, .int .i64 5]) ∧ w = w' := place_any 84 (by unfold Letter; decide) w
theorem place_68 (w : World) : Calls Tryz.prog 51 #[.int .i32 68] w fun e w' => e = .returned (.tuple #[.int .i64 11, .int .i64 5]) ∧ w = w' := place_any 68 (by unfold Letter; decide) w
theorem place_97 (w : World) : Calls Tryz.prog 51 #[.int .i32 97] w fun e w' => e = .returned (.tuple #[.int .i64 6, .int .i64 5]) ∧ w = w' := place_any 97 (by unfold Letter; decide) w
theorem place_105 (w : World) : Calls Tryz.prog 51 #[.int .i32 105] w fun e w' => e = .returned (.tuple #[.int .i64 0, .int .i64 16]) ∧ w = w' := place_any 105 (by unfold Letter; decide) w
theorem place_106 (w : World) : Calls Tryz.prog 51 #[.int .i32 106] w fun e w' => e = .returned (.tuple #[.int .i64 0, .int .i64 26]) ∧ w = w' := place_any 106 (by unfold Letter; decide) w
set_option maxRecDepth 100000 in
set_option maxHeartbeats 2000000 in
theorem mask_any (l : List UInt8) (hl : ∀ c ∈ l, Letter c) (nm ks : ByteArray) (mj mn : Int) (w : World) :
    Calls Tryz.prog 49 #[.agg #[.string nm, .int .u32 mj, .int .u32 mn, .string ⟨l.toArray⟩, .string ks]] w fun e w' => e = .returned (.int .u32 (maskOf l)) ∧ Keeps (fun _ => False) w w' := by
  have HL := Lib.hid hl
  clear hl
  go_enter Tryz.func49, Tryz.ntmps49
  go_wp2_with fail
  have kb := (Keeps.refl (fun _ => False) w).alloc (.cells #[.string nm, .int .u32 mj, .int .u32 mn, .string ⟨l.toArray⟩, .string ks] 97)
  have hy : (w.alloc (.cells #[.string nm, .int .u32 mj, .int .u32 mn, .string ⟨l.toArray⟩, .string ks] 97)).heap.size = w.heap.size + 1 := by simp
  have HK := Lib.hid kb
  have HY := Lib.hid hy
  clear kb hy
  generalize w.alloc (.cells #[.string nm, .int .u32 mj, .int .u32 mn, .string ⟨l.toArray⟩, .string ks] 97) = wb at *
  generalize w.heap.size + 1 = y at *
  go_loopw [3] (fun s3 wr => ∃ k : Nat, k ≤ l.length ∧ wr = wb.iter ⟨l.toArray⟩ k ∧ s3 = .int .u32 (maskOf (l.take k))) (fun _ wr => l.length - iterAt wr y)
  case atStart => exact ⟨0, by omega, rfl, rfl⟩
  case round =>
    obtain ⟨k, hk, rfl, rfl⟩ := hrel
    by_cases hlt : k < l.length
    · have HM := Lib.hid (maskOf_take l k hlt)
      have hc := HL.out l[k] (List.getElem_mem hlt)
      rcases hc with hc | hc | hc | hc | hc | hc
      all_goals
        have hn := fun ty => next_at wb y HY.out l k ty hlt _ hc (by decide) _ rfl
        have HC := Lib.hid hc
        clear hc
        go_wp2_with fail
        (first | with_reducible refine (place_83 _).mono ?_ | with_reducible refine (place_84 _).mono ?_ | with_reducible refine (place_68 _).mono ?_ | with_reducible refine (place_97 _).mono ?_ | with_reducible refine (place_105 _).mono ?_ | with_reducible refine (place_106 _).mono ?_)
        rintro e w' ⟨rfl, rfl⟩
        go_wp2_with fail
        go_roundw
        case rel => exact ⟨k + 1, by omega, rfl, by rw [HM.out, HC.out]; rfl⟩
        case measure => rw [iterAt_iter _ _ HY.out, iterAt_iter _ _ HY.out]; omega
    · have hn := fun ty => next_end wb y HY.out l k ty hlt
      obtain rfl : k = l.length := by omega
      have HT := Lib.hid (show maskOf (l.take l.length) = maskOf l by rw [List.take_length])
      go_wp2_with fail
      go_ret
      exact ⟨by rw [← HT.out]; rfl, HK.out.trans ((Keeps.refl (fun _ => False) wb).alloc (.stringIter ⟨l.toArray⟩ l.length)) (fun _ _ h => h)⟩
end Go.Proofs.YtlbdkcnbgdmpaaaGreatDoor

/- Fixed -/
/- The walks of fixed and lay. -/
namespace Go.Proofs.YtlbdkcnbgdmpaaaGreatDoor
open Go.RowKit Go.Deep
set_option linter.unusedVariables false

theorem ret_u {a b : Int} (h : a = b) : Ending.returned (.int .u32 a) = .returned (.int .u32 b) := by rw [h]
set_option maxRecDepth 100000 in
set_option maxHeartbeats 1000000 in
theorem fixed_any (mj mn : Int) (h1 : 0 ≤ mj ∧ mj < 64) (h2 : 0 ≤ mn ∧ mn < 64) (h3 : mj = 16 → mn = 0 ∨ mn = 4 ∨ mn = 16) (nm fl ks : ByteArray) (w : World) :
    Calls Tryz.prog 50 #[.agg #[.string nm, .int .u32 mj, .int .u32 mn, .string fl, .string ks]] w fun e w' => e = .returned (.int .u32 (fixV mj mn)) ∧ Keeps (fun _ => False) w w' := by
  by_cases h0 : mj = 0
  · subst h0
    have hv : bits .or .u32 0 mn = mn := by
      rw [u32_or _ _ (by omega) (by omega) (by omega) (by omega)]
      show ((0 ||| mn.toNat : Nat) : Int) = mn
      rw [Nat.zero_or]
      omega
    have HV := Lib.hid hv
    clear h3 hv
    go_enter Tryz.func50, Tryz.ntmps50
    go_wp2_with fail
    go_ret
    exact ⟨ret_u HV.out, (Keeps.refl _ _).alloc _⟩
  · by_cases h4 : mj = 16
    · subst h4
      rcases h3 rfl with rfl | rfl | rfl
      all_goals
        clear h3
        go_enter Tryz.func50, Tryz.ntmps50
        go_wp2_with fail
        go_ret
        exact ⟨ret_u (by decide +kernel), (Keeps.refl _ _).alloc _⟩
    · have t1 : (mj == 0) = false := by simpa using h0
      have t2 : (mj == 16) = false := by simpa using h4
      have hv : fixV mj mn = mj * 67108864 := by rw [fixV, if_neg h0, if_neg h4]
      have HV := Lib.hid hv
      clear h3 h0 h4 hv
      go_enter Tryz.func50, Tryz.ntmps50
      go_wp2_with fail
      go_ret
      exact ⟨ret_u (by first | (rw [HV.out]; done) | (rw [HV.out]; omega)), (Keeps.refl _ _).alloc _⟩
theorem row_fix (op : Nat) (h : op < 54) : (0 ≤ ((Cd.row op).major : Int) ∧ ((Cd.row op).major : Int) < 64) ∧ (0 ≤ ((Cd.row op).minor : Int) ∧ ((Cd.row op).minor : Int) < 64) ∧ (((Cd.row op).major : Int) = 16 → ((Cd.row op).minor : Int) = 0 ∨ ((Cd.row op).minor : Int) = 4 ∨ ((Cd.row op).minor : Int) = 16) ∧ ∀ c ∈ (Cd.row op).fields, Letter c := by
  have key : ∀ o : Fin 54, (Cd.row o.val).major < 64 ∧ (Cd.row o.val).minor < 64 ∧ ((Cd.row o.val).major = 16 → (Cd.row o.val).minor = 0 ∨ (Cd.row o.val).minor = 4 ∨ (Cd.row o.val).minor = 16) ∧ ∀ c ∈ (Cd.row o.val).fields, c = 83 ∨ c = 84 ∨ c = 68 ∨ c = 97 ∨ c = 105 ∨ c = 106 := by decide +kernel
  obtain ⟨k1, k2, k3, k4⟩ := key ⟨op, h⟩
  simp only at k1 k2 k3 k4
  exact ⟨by omega, by omega, by omega, k4⟩

/-- the cells of an instruction -/
def insC (i : Cd.Ins) : Array Value := #[.int .i64 i.op, .int .i64 i.S, .int .i64 i.T, .int .i64 i.D, .int .u32 i.imm]
def layF (v : Int) (i : Cd.Ins) (c : UInt8) : Cd.Ins :=
  if c = 83 then { i with S := Cd.part v 21 5 } else if c = 84 then { i with T := Cd.part v 16 5 } else if c = 68 then { i with D := Cd.part v 11 5 }
  else if c = 97 then { i with imm := Cd.part v 6 5 } else if c = 105 then { i with imm := Cd.part v 0 16 } else { i with imm := Cd.part v 0 26 }
def layTo (op : Nat) (v : Int) (l : List UInt8) : Cd.Ins := l.foldl (layF v) ⟨op, 0, 0, 0, 0⟩
theorem layTo_take (op : Nat) (v : Int) (l : List UInt8) (k : Nat) (h : k < l.length) : layTo op v (l.take (k + 1)) = layF v (layTo op v (l.take k)) l[k] := by
  unfold layTo
  rw [List.take_succ_eq_append_getElem h, List.foldl_append]
  rfl
theorem layTo_all (op : Nat) (h : op < 54) (v : Int) : layTo op v (Cd.row op).fields = Cd.insOf op v := by
  have : op = 0 ∨ op = 1 ∨ op = 2 ∨ op = 3 ∨ op = 4 ∨ op = 5 ∨ op = 6 ∨ op = 7 ∨ op = 8 ∨ op = 9 ∨ op = 10 ∨ op = 11 ∨ op = 12 ∨ op = 13 ∨ op = 14 ∨ op = 15 ∨ op = 16 ∨ op = 17 ∨ op = 18 ∨ op = 19 ∨ op = 20 ∨ op = 21 ∨ op = 22 ∨ op = 23 ∨ op = 24 ∨ op = 25 ∨ op = 26 ∨ op = 27 ∨ op = 28 ∨ op = 29 ∨ op = 30 ∨ op = 31 ∨ op = 32 ∨ op = 33 ∨ op = 34 ∨ op = 35 ∨ op = 36 ∨ op = 37 ∨ op = 38 ∨ op = 39 ∨ op = 40 ∨ op = 41 ∨ op = 42 ∨ op = 43 ∨ op = 44 ∨ op = 45 ∨ op = 46 ∨ op = 47 ∨ op = 48 ∨ op = 49 ∨ op = 50 ∨ op = 51 ∨ op = 52 ∨ op = 53 := by omega
  rcases this with rfl | rfl | rfl | rfl | rfl | rfl | rfl | rfl | rfl | rfl | rfl | rfl | rfl | rfl | rfl | rfl | rfl | rfl | rfl | rfl | rfl | rfl | rfl | rfl | rfl | rfl | rfl | rfl | rfl | rfl | rfl | rfl | rfl | rfl | rfl | rfl | rfl | rfl | rfl | rfl | rfl | rfl | rfl | rfl | rfl | rfl | rfl | rfl | rfl | rfl | rfl | rfl | rfl | rfl <;> rfl

theorem lay_S (y : Nat) (x : Int) (cs : Array Value) (T : TypeId) (w : World) (hb : w.heap[y]? = some (.cells cs T (0, 0))) (hc : cs.size = 5) (hx : 0 ≤ x ∧ x < 4294967296) :
    Calls Tryz.prog 52 #[.pointer (some ⟨y, 0, none⟩), .int .i32 83, .int .u32 x] w fun e w' => e = .returned (.tuple #[]) ∧ w' = w.setCell ⟨y, 1, none⟩ (.int .i64 x) := by
  obtain ⟨u, hu⟩ : ∃ u, w.cell? ⟨y, 1, none⟩ = some u := ⟨cs[1], by simp [World.cell?, hb, hc]⟩
  have hf := frozen_of_block hb 1
  go_enter Tryz.func52, Tryz.ntmps52
  go_wp2_with fail
  refine bodyPost_end (results_none rfl _ _ _) rfl ?_
  exact ⟨rfl, rfl⟩
theorem lay_T (y : Nat) (x : Int) (cs : Array Value) (T : TypeId) (w : World) (hb : w.heap[y]? = some (.cells cs T (0, 0))) (hc : cs.size = 5) (hx : 0 ≤ x ∧ x < 4294967296) :
    Calls Tryz.prog 52 #[.pointer (some ⟨y, 0, none⟩), .int .i32 84, .int .u32 x] w fun e w' => e = .returned (.tuple #[]) ∧ w' = w.setCell ⟨y, 2, none⟩ (.int .i64 x) := by
  obtain ⟨u, hu⟩ : ∃ u, w.cell? ⟨y, 2, none⟩ = some u := ⟨cs[2], by simp [World.cell?, hb, hc]⟩
  have hf := frozen_of_block hb 2
  go_enter Tryz.func52, Tryz.ntmps52
  go_wp2_with fail
  refine bodyPost_end (results_none rfl _ _ _) rfl ?_
  exact ⟨rfl, rfl⟩
theorem lay_D (y : Nat) (x : Int) (cs : Array Value) (T : TypeId) (w : World) (hb : w.heap[y]? = some (.cells cs T (0, 0))) (hc : cs.size = 5) (hx : 0 ≤ x ∧ x < 4294967296) :
    Calls Tryz.prog 52 #[.pointer (some ⟨y, 0, none⟩), .int .i32 68, .int .u32 x] w fun e w' => e = .returned (.tuple #[]) ∧ w' = w.setCell ⟨y, 3, none⟩ (.int .i64 x) := by
  obtain ⟨u, hu⟩ : ∃ u, w.cell? ⟨y, 3, none⟩ = some u := ⟨cs[3], by simp [World.cell?, hb, hc]⟩
  have hf := frozen_of_block hb 3
  go_enter Tryz.func52, Tryz.ntmps52
  go_wp2_with fail
  refine bodyPost_end (results_none rfl _ _ _) rfl ?_
  exact ⟨rfl, rfl⟩
theorem lay_a (y : Nat) (x : Int) (cs : Array Value) (T : TypeId) (w : World) (hb : w.heap[y]? = some (.cells cs T (0, 0))) (hc : cs.size = 5) (hx : 0 ≤ x ∧ x < 4294967296) :
    Calls Tryz.prog 52 #[.pointer (some ⟨y, 0, none⟩), .int .i32 97, .int .u32 x] w fun e w' => e = .returned (.tuple #[]) ∧ w' = w.setCell ⟨y, 4, none⟩ (.int .u32 x) := by
  obtain ⟨u, hu⟩ : ∃ u, w.cell? ⟨y, 4, none⟩ = some u := ⟨cs[4], by simp [World.cell?, hb, hc]⟩
  have hf := frozen_of_block hb 4
  go_enter Tryz.func52, Tryz.ntmps52
  go_wp2_with fail
  refine bodyPost_end (results_none rfl _ _ _) rfl ?_
  exact ⟨rfl, rfl⟩
theorem lay_i (y : Nat) (x : Int) (cs : Array Value) (T : TypeId) (w : World) (hb : w.heap[y]? = some (.cells cs T (0, 0))) (hc : cs.size = 5) (hx : 0 ≤ x ∧ x < 4294967296) :
    Calls Tryz.prog 52 #[.pointer (some ⟨y, 0, none⟩), .int .i32 105, .int .u32 x] w fun e w' => e = .returned (.tuple #[]) ∧ w' = w.setCell ⟨y, 4, none⟩ (.int .u32 x) := by
  obtain ⟨u, hu⟩ : ∃ u, w.cell? ⟨y, 4, none⟩ = some u := ⟨cs[4], by simp [World.cell?, hb, hc]⟩
  have hf := frozen_of_block hb 4
  go_enter Tryz.func52, Tryz.ntmps52
  go_wp2_with fail
  refine bodyPost_end (results_none rfl _ _ _) rfl ?_
  exact ⟨rfl, rfl⟩
theorem lay_j (y : Nat) (x : Int) (cs : Array Value) (T : TypeId) (w : World) (hb : w.heap[y]? = some (.cells cs T (0, 0))) (hc : cs.size = 5) (hx : 0 ≤ x ∧ x < 4294967296) :
    Calls Tryz.prog 52 #[.pointer (some ⟨y, 0, none⟩), .int .i32 106, .int .u32 x] w fun e w' => e = .returned (.tuple #[]) ∧ w' = w.setCell ⟨y, 4, none⟩ (.int .u32 x) := by
  obtain ⟨u, hu⟩ : ∃ u, w.cell? ⟨y, 4, none⟩ = some u := ⟨cs[4], by simp [World.cell?, hb, hc]⟩
  have hf := frozen_of_block hb 4
  go_enter Tryz.func52, Tryz.ntmps52
  go_wp2_with fail
  refine bodyPost_end (results_none rfl _ _ _) rfl ?_
  exact ⟨rfl, rfl⟩
end Go.Proofs.YtlbdkcnbgdmpaaaGreatDoor
