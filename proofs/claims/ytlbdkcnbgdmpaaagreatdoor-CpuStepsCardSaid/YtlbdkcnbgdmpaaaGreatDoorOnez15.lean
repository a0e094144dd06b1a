import Derived.Test.YtlbdkcnbgdmpaaaGreatDoorOnez14

/- RefMatch -/
/- The walk of the reference's matches: a word against a row of the table. (Printed by gen/match.py.) -/
namespace Go.Proofs.YtlbdkcnbgdmpaaaGreatDoor
open Go.RowKit Go.Deep
set_option linter.unusedVariables false
set_option linter.unusedSimpArgs false
namespace Cd
/-- the class of a row's major number -/
def cl (ma mi : Nat) : Nat := if ma = 0 then 0 else if ma = 16 then (if mi = 16 then 1 else 2) else 3
/-- the texts of fields that there are, with that class -/
def cls : List (List UInt8 × Nat) := [([84, 68, 97], 0), ([83, 84, 68], 0), ([83], 0), ([83, 68], 0), ([], 0), ([68], 0), ([83, 84], 0), ([106], 3), ([83, 84, 105], 3), ([83, 105], 3), ([84, 105], 3), ([84, 68], 2), ([], 1)]
theorem cls_are : ∀ o : Fin 54, 1 ≤ o.val → ((row o.val).fields, cl (row o.val).major (row o.val).minor) ∈ cls := by decide +kernel
theorem major_lt : ∀ o : Fin 54, (row o.val).major < 64 ∧ (row o.val).minor < 64 := by decide +kernel
end Cd
/-- IsOf, the letter a number -/
theorem isOf_n (l : List UInt8) (c : Int) (k : UInt8) (hk : (k.toNat : Int) = c) (hl : l.length < 100) (b : Bool) (hb : Cd.has l k = b) (w : World) :
    Calls Tryz.prog 66 #[.string ⟨l.toArray⟩, .int .u8 c] w fun e w' => e = .returned (.bool b) ∧ w = w' := by
  subst hk hb
  exact isOf_any l k hl w
theorem part_k (v : Int) (u n : Nat) (k : Int) (hv : 0 ≤ v ∧ v < 4294967296) (hu : u < 32) (hn : n < 32) (hk : Cd.part v u n = k) (w : World) :
    Calls Tryz.prog 20 #[.int .u32 v, .int .i64 u, .int .i64 n] w fun e w' => e = .returned (.int .i64 k) ∧ w = w' := by
  subst hk
  exact part_n v u n hu hn hv w
theorem part_26 (v k : Int) (hv : 0 ≤ v ∧ v < 4294967296) (hk : Cd.part v 26 6 = k) (w : World) (d : Nat) :
    Calls Tryz.prog 20 #[.int .u32 v, .int .i64 26, .int .i64 6] (w.drewN d) fun e w'' => e = .returned (.int .i64 k) ∧ ∃ m, w'' = w.drewN m :=
  (part_k v 26 6 k hv (by omega) (by omega) hk (w.drewN d)).mono fun _ _ ⟨he, hm⟩ => ⟨he, d, hm.symm⟩

theorem part_21 (v k : Int) (hv : 0 ≤ v ∧ v < 4294967296) (hk : Cd.part v 21 5 = k) (w : World) :
    Calls Tryz.prog 20 #[.int .u32 v, .int .i64 21, .int .i64 5] w fun e w' => e = .returned (.int .i64 k) ∧ w = w' := part_k v 21 5 k hv (by omega) (by omega) hk w
theorem part_16 (v k : Int) (hv : 0 ≤ v ∧ v < 4294967296) (hk : Cd.part v 16 5 = k) (w : World) :
    Calls Tryz.prog 20 #[.int .u32 v, .int .i64 16, .int .i64 5] w fun e w' => e = .returned (.int .i64 k) ∧ w = w' := part_k v 16 5 k hv (by omega) (by omega) hk w
theorem part_11 (v k : Int) (hv : 0 ≤ v ∧ v < 4294967296) (hk : Cd.part v 11 5 = k) (w : World) :
    Calls Tryz.prog 20 #[.int .u32 v, .int .i64 11, .int .i64 5] w fun e w' => e = .returned (.int .i64 k) ∧ w = w' := part_k v 11 5 k hv (by omega) (by omega) hk w
theorem part_6 (v k : Int) (hv : 0 ≤ v ∧ v < 4294967296) (hk : Cd.part v 6 5 = k) (w : World) :
    Calls Tryz.prog 20 #[.int .u32 v, .int .i64 6, .int .i64 5] w fun e w' => e = .returned (.int .i64 k) ∧ w = w' := part_k v 6 5 k hv (by omega) (by omega) hk w
theorem part_0 (v k : Int) (hv : 0 ≤ v ∧ v < 4294967296) (hk : Cd.part v 0 6 = k) (w : World) :
    Calls Tryz.prog 20 #[.int .u32 v, .int .i64 0, .int .i64 6] w fun e w' => e = .returned (.int .i64 k) ∧ w = w' := part_k v 0 6 k hv (by omega) (by omega) hk w
/-- a row's test, by the word's parts -/
def rowB (p26 p21 p16 p11 p6 p0 : Int) (r : Cd.Row) : Bool :=
  decide (p26 = r.major) && (Cd.has r.fields 106 || ((Cd.has r.fields 83 || decide (p21 = Cd.mid r)) && (Cd.has r.fields 84 || decide (p16 = 0)) &&
    (Cd.has r.fields 105 || ((Cd.has r.fields 68 || decide (p11 = 0)) && (Cd.has r.fields 97 || decide (p6 = 0)) && decide (p0 = Cd.low r)))))
theorem eqD (a b : Int) : (a == b) = decide (a = b) := by
  rw [Bool.eq_iff_iff, beq_iff_eq, decide_eq_true_iff]
theorem neT {a b : Int} (h : ¬ a = b) : (a != b) = true := by simpa using h
theorem neF {a b : Int} (h : a = b) : (a != b) = false := by simpa using h
theorem eqF {a b : Int} (h : ¬ a = b) : (a == b) = false := by simpa using h

set_option maxRecDepth 100000 in
set_option maxHeartbeats 4000000 in
theorem matches_0 (v : Int) (hv : 0 ≤ v ∧ v < 4294967296) (nm od : List UInt8) (mi : Nat) (kk : Nat) (ks : Value) (p26 p21 p16 p11 p6 p0 : Int) (H26 : Hid (Cd.part v 26 6 = p26)) (H21 : Hid (Cd.part v 21 5 = p21)) (H16 : Hid (Cd.part v 16 5 = p16)) (H11 : Hid (Cd.part v 11 5 = p11)) (H6 : Hid (Cd.part v 6 5 = p6)) (H0 : Hid (Cd.part v 0 6 = p0)) (w : World) :
    Calls Tryz.prog 65 #[.int .u32 v, .agg #[.string ⟨nm.toArray⟩, .int .i64 0, .int .i64 mi, .string ⟨([84, 68, 97] : List UInt8).toArray⟩, .string ⟨od.toArray⟩, ks]] w fun e w' => e = .returned (.bool (rowB p26 p21 p16 p11 p6 p0 ⟨nm, 0, mi, [84, 68, 97], od, kk⟩)) ∧ Keeps (fun _ => False) w w' := by
  have HB := Lib.hid (blk_alloc_new w (.cells #[.string ⟨nm.toArray⟩, .int .i64 0, .int .i64 mi, .string ⟨([84, 68, 97] : List UInt8).toArray⟩, .string ⟨od.toArray⟩, ks] 109 (0, 0)))
  have HK := Lib.hid ((Keeps.refl (fun _ => False) w).alloc (.cells #[.string ⟨nm.toArray⟩, .int .i64 0, .int .i64 mi, .string ⟨([84, 68, 97] : List UInt8).toArray⟩, .string ⟨od.toArray⟩, ks] 109 (0, 0)))
  have HR : Hid (rowB p26 p21 p16 p11 p6 p0 ⟨nm, 0, mi, [84, 68, 97], od, kk⟩ = (decide (p26 = 0) && decide (p21 = 0) && decide (p0 = (mi : Int)))) := Lib.hid (by
    have f106 : Cd.has [84, 68, 97] 106 = false := by decide
    have f83 : Cd.has [84, 68, 97] 83 = false := by decide
    have f84 : Cd.has [84, 68, 97] 84 = true := by decide
    have f105 : Cd.has [84, 68, 97] 105 = false := by decide
    have f68 : Cd.has [84, 68, 97] 68 = true := by decide
    have f97 : Cd.has [84, 68, 97] 97 = true := by decide
    have em : Cd.mid ⟨nm, 0, mi, [84, 68, 97], od, kk⟩ = 0 := rfl
    have el : Cd.low ⟨nm, 0, mi, [84, 68, 97], od, kk⟩ = (mi : Int) := rfl
    unfold rowB
    rw [em, el]
    simp only [f106, f83, f84, f105, f68, f97, Bool.true_or, Bool.false_or, Bool.or_true, Bool.and_true, Bool.true_and, Bool.and_assoc]
    all_goals first | rfl | simp)
  by_cases c0 : p26 = 0
  · have t0 := neF c0
    have C0 := Lib.hid c0
    clear c0
    by_cases c1 : p21 = 0
    · have t1 := neF c1
      have C1 := Lib.hid c1
      clear c1
      go_enter Tryz.func65, Tryz.ntmps65
      go_wp2_with fail
      go_quiet ((go_at_call 20; with_reducible exact part_26 v p26 hv H26.out _ _))
      go_wp2_with (first
        | (go_at_call 20; (with_reducible refine (part_21 v p21 hv H21.out _).mono ?_); rintro e w' ⟨rfl, rfl⟩)
        | (go_at_call 20; (with_reducible refine (part_16 v p16 hv H16.out _).mono ?_); rintro e w' ⟨rfl, rfl⟩)
        | (go_at_call 20; (with_reducible refine (part_11 v p11 hv H11.out _).mono ?_); rintro e w' ⟨rfl, rfl⟩)
        | (go_at_call 20; (with_reducible refine (part_6 v p6 hv H6.out _).mono ?_); rintro e w' ⟨rfl, rfl⟩)
        | (go_at_call 20; (with_reducible refine (part_0 v p0 hv H0.out _).mono ?_); rintro e w' ⟨rfl, rfl⟩)
        | (go_at_call 66; (with_reducible refine (isOf_n [84, 68, 97] 106 106 (by decide) (by decide) false (by decide) _).mono ?_); rintro e w' ⟨rfl, rfl⟩)
        | (go_at_call 66; (with_reducible refine (isOf_n [84, 68, 97] 83 83 (by decide) (by decide) false (by decide) _).mono ?_); rintro e w' ⟨rfl, rfl⟩)
        | (go_at_call 66; (with_reducible refine (isOf_n [84, 68, 97] 84 84 (by decide) (by decide) true (by decide) _).mono ?_); rintro e w' ⟨rfl, rfl⟩)
        | (go_at_call 66; (with_reducible refine (isOf_n [84, 68, 97] 105 105 (by decide) (by decide) false (by decide) _).mono ?_); rintro e w' ⟨rfl, rfl⟩)
        | (go_at_call 66; (with_reducible refine (isOf_n [84, 68, 97] 68 68 (by decide) (by decide) true (by decide) _).mono ?_); rintro e w' ⟨rfl, rfl⟩)
        | (go_at_call 66; (with_reducible refine (isOf_n [84, 68, 97] 97 97 (by decide) (by decide) true (by decide) _).mono ?_); rintro e w' ⟨rfl, rfl⟩))
      go_ret
      refine ⟨?_, HK.out.drewN _⟩
      rw [HR.out]
      simp [C0.out, C1.out, eqD]
    · have t1 := neT c1
      have C1 := Lib.hid c1
      clear c1
      go_enter Tryz.func65, Tryz.ntmps65
      go_wp2_with fail
      go_quiet ((go_at_call 20; with_reducible exact part_26 v p26 hv H26.out _ _))
      go_wp2_with (first
        | (go_at_call 20; (with_reducible refine (part_21 v p21 hv H21.out _).mono ?_); rintro e w' ⟨rfl, rfl⟩)
        | (go_at_call 20; (with_reducible refine (part_16 v p16 hv H16.out _).mono ?_); rintro e w' ⟨rfl, rfl⟩)
        | (go_at_call 20; (with_reducible refine (part_11 v p11 hv H11.out _).mono ?_); rintro e w' ⟨rfl, rfl⟩)
        | (go_at_call 20; (with_reducible refine (part_6 v p6 hv H6.out _).mono ?_); rintro e w' ⟨rfl, rfl⟩)
        | (go_at_call 20; (with_reducible refine (part_0 v p0 hv H0.out _).mono ?_); rintro e w' ⟨rfl, rfl⟩)
        | (go_at_call 66; (with_reducible refine (isOf_n [84, 68, 97] 106 106 (by decide) (by decide) false (by decide) _).mono ?_); rintro e w' ⟨rfl, rfl⟩)
        | (go_at_call 66; (with_reducible refine (isOf_n [84, 68, 97] 83 83 (by decide) (by decide) false (by decide) _).mono ?_); rintro e w' ⟨rfl, rfl⟩)
        | (go_at_call 66; (with_reducible refine (isOf_n [84, 68, 97] 84 84 (by decide) (by decide) true (by decide) _).mono ?_); rintro e w' ⟨rfl, rfl⟩)
        | (go_at_call 66; (with_reducible refine (isOf_n [84, 68, 97] 105 105 (by decide) (by decide) false (by decide) _).mono ?_); rintro e w' ⟨rfl, rfl⟩)
        | (go_at_call 66; (with_reducible refine (isOf_n [84, 68, 97] 68 68 (by decide) (by decide) true (by decide) _).mono ?_); rintro e w' ⟨rfl, rfl⟩)
        | (go_at_call 66; (with_reducible refine (isOf_n [84, 68, 97] 97 97 (by decide) (by decide) true (by decide) _).mono ?_); rintro e w' ⟨rfl, rfl⟩))
      go_ret
      refine ⟨?_, HK.out.drewN _⟩
      rw [HR.out]
      simp [C0.out, C1.out, eqD]
  · have t0 := neT c0
    have C0 := Lib.hid c0
    clear c0
    go_enter Tryz.func65, Tryz.ntmps65
    go_wp2_with fail
    go_quiet ((go_at_call 20; with_reducible exact part_26 v p26 hv H26.out _ _))
    go_wp2_with (first
      | (go_at_call 20; (with_reducible refine (part_21 v p21 hv H21.out _).mono ?_); rintro e w' ⟨rfl, rfl⟩)
      | (go_at_call 20; (with_reducible refine (part_16 v p16 hv H16.out _).mono ?_); rintro e w' ⟨rfl, rfl⟩)
      | (go_at_call 20; (with_reducible refine (part_11 v p11 hv H11.out _).mono ?_); rintro e w' ⟨rfl, rfl⟩)
      | (go_at_call 20; (with_reducible refine (part_6 v p6 hv H6.out _).mono ?_); rintro e w' ⟨rfl, rfl⟩)
      | (go_at_call 20; (with_reducible refine (part_0 v p0 hv H0.out _).mono ?_); rintro e w' ⟨rfl, rfl⟩)
      | (go_at_call 66; (with_reducible refine (isOf_n [84, 68, 97] 106 106 (by decide) (by decide) false (by decide) _).mono ?_); rintro e w' ⟨rfl, rfl⟩)
      | (go_at_call 66; (with_reducible refine (isOf_n [84, 68, 97] 83 83 (by decide) (by decide) false (by decide) _).mono ?_); rintro e w' ⟨rfl, rfl⟩)
      | (go_at_call 66; (with_reducible refine (isOf_n [84, 68, 97] 84 84 (by decide) (by decide) true (by decide) _).mono ?_); rintro e w' ⟨rfl, rfl⟩)
      | (go_at_call 66; (with_reducible refine (isOf_n [84, 68, 97] 105 105 (by decide) (by decide) false (by decide) _).mono ?_); rintro e w' ⟨rfl, rfl⟩)
      | (go_at_call 66; (with_reducible refine (isOf_n [84, 68, 97] 68 68 (by decide) (by decide) true (by decide) _).mono ?_); rintro e w' ⟨rfl, rfl⟩)
      | (go_at_call 66; (with_reducible refine (isOf_n [84, 68, 97] 97 97 (by decide) (by decide) true (by decide) _).mono ?_); rintro e w' ⟨rfl, rfl⟩))
    go_ret
    refine ⟨?_, HK.out.drewN _⟩
    rw [HR.out]
    simp [C0.out, eqD]
set_option maxRecDepth 100000 in
set_option maxHeartbeats 4000000 in
theorem matches_1 (v : Int) (hv : 0 ≤ v ∧ v < 4294967296) (nm od : List UInt8) (mi : Nat) (kk : Nat) (ks : Value) (p26 p21 p16 p11 p6 p0 : Int) (H26 : Hid (Cd.part v 26 6 = p26)) (H21 : Hid (Cd.part v 21 5 = p21)) (H16 : Hid (Cd.part v 16 5 = p16)) (H11 : Hid (Cd.part v 11 5 = p11)) (H6 : Hid (Cd.part v 6 5 = p6)) (H0 : Hid (Cd.part v 0 6 = p0)) (w : World) :
    Calls Tryz.prog 65 #[.int .u32 v, .agg #[.string ⟨nm.toArray⟩, .int .i64 0, .int .i64 mi, .string ⟨([83, 84, 68] : List UInt8).toArray⟩, .string ⟨od.toArray⟩, ks]] w fun e w' => e = .returned (.bool (rowB p26 p21 p16 p11 p6 p0 ⟨nm, 0, mi, [83, 84, 68], od, kk⟩)) ∧ Keeps (fun _ => False) w w' := by
  have HB := Lib.hid (blk_alloc_new w (.cells #[.string ⟨nm.toArray⟩, .int .i64 0, .int .i64 mi, .string ⟨([83, 84, 68] : List UInt8).toArray⟩, .string ⟨od.toArray⟩, ks] 109 (0, 0)))
  have HK := Lib.hid ((Keeps.refl (fun _ => False) w).alloc (.cells #[.string ⟨nm.toArray⟩, .int .i64 0, .int .i64 mi, .string ⟨([83, 84, 68] : List UInt8).toArray⟩, .string ⟨od.toArray⟩, ks] 109 (0, 0)))
  have HR : Hid (rowB p26 p21 p16 p11 p6 p0 ⟨nm, 0, mi, [83, 84, 68], od, kk⟩ = (decide (p26 = 0) && decide (p6 = 0) && decide (p0 = (mi : Int)))) := Lib.hid (by
    have f106 : Cd.has [83, 84, 68] 106 = false := by decide
    have f83 : Cd.has [83, 84, 68] 83 = true := by decide
    have f84 : Cd.has [83, 84, 68] 84 = true := by decide
    have f105 : Cd.has [83, 84, 68] 105 = false := by decide
    have f68 : Cd.has [83, 84, 68] 68 = true := by decide
    have f97 : Cd.has [83, 84, 68] 97 = false := by decide
    have em : Cd.mid ⟨nm, 0, mi, [83, 84, 68], od, kk⟩ = 0 := rfl
    have el : Cd.low ⟨nm, 0, mi, [83, 84, 68], od, kk⟩ = (mi : Int) := rfl
    unfold rowB
    rw [em, el]
    simp only [f106, f83, f84, f105, f68, f97, Bool.true_or, Bool.false_or, Bool.or_true, Bool.and_true, Bool.true_and, Bool.and_assoc]
    all_goals first | rfl | simp)
  by_cases c0 : p26 = 0
  · have t0 := neF c0
    have C0 := Lib.hid c0
    clear c0
    by_cases c1 : p6 = 0
    · have t1 := neF c1
      have C1 := Lib.hid c1
      clear c1
      go_enter Tryz.func65, Tryz.ntmps65
      go_wp2_with fail
      go_quiet ((go_at_call 20; with_reducible exact part_26 v p26 hv H26.out _ _))
      go_wp2_with (first
        | (go_at_call 20; (with_reducible refine (part_21 v p21 hv H21.out _).mono ?_); rintro e w' ⟨rfl, rfl⟩)
        | (go_at_call 20; (with_reducible refine (part_16 v p16 hv H16.out _).mono ?_); rintro e w' ⟨rfl, rfl⟩)
        | (go_at_call 20; (with_reducible refine (part_11 v p11 hv H11.out _).mono ?_); rintro e w' ⟨rfl, rfl⟩)
        | (go_at_call 20; (with_reducible refine (part_6 v p6 hv H6.out _).mono ?_); rintro e w' ⟨rfl, rfl⟩)
        | (go_at_call 20; (with_reducible refine (part_0 v p0 hv H0.out _).mono ?_); rintro e w' ⟨rfl, rfl⟩)
        | (go_at_call 66; (with_reducible refine (isOf_n [83, 84, 68] 106 106 (by decide) (by decide) false (by decide) _).mono ?_); rintro e w' ⟨rfl, rfl⟩)
        | (go_at_call 66; (with_reducible refine (isOf_n [83, 84, 68] 83 83 (by decide) (by decide) true (by decide) _).mono ?_); rintro e w' ⟨rfl, rfl⟩)
        | (go_at_call 66; (with_reducible refine (isOf_n [83, 84, 68] 84 84 (by decide) (by decide) true (by decide) _).mono ?_); rintro e w' ⟨rfl, rfl⟩)
        | (go_at_call 66; (with_reducible refine (isOf_n [83, 84, 68] 105 105 (by decide) (by decide) false (by decide) _).mono ?_); rintro e w' ⟨rfl, rfl⟩)
        | (go_at_call 66; (with_reducible refine (isOf_n [83, 84, 68] 68 68 (by decide) (by decide) true (by decide) _).mono ?_); rintro e w' ⟨rfl, rfl⟩)
        | (go_at_call 66; (with_reducible refine (isOf_n [83, 84, 68] 97 97 (by decide) (by decide) false (by decide) _).mono ?_); rintro e w' ⟨rfl, rfl⟩))
      go_ret
      refine ⟨?_, HK.out.drewN _⟩
      rw [HR.out]
      simp [C0.out, C1.out, eqD]
    · have t1 := neT c1
      have C1 := Lib.hid c1
      clear c1
      go_enter Tryz.func65, Tryz.ntmps65
      go_wp2_with fail
      go_quiet ((go_at_call 20; with_reducible exact part_26 v p26 hv H26.out _ _))
      go_wp2_with (first
        | (go_at_call 20; (with_reducible refine (part_21 v p21 hv H21.out _).mono ?_); rintro e w' ⟨rfl, rfl⟩)
        | (go_at_call 20; (with_reducible refine (part_16 v p16 hv H16.out _).mono ?_); rintro e w' ⟨rfl, rfl⟩)
        | (go_at_call 20; (with_reducible refine (part_11 v p11 hv H11.out _).mono ?_); rintro e w' ⟨rfl, rfl⟩)
        | (go_at_call 20; (with_reducible refine (part_6 v p6 hv H6.out _).mono ?_); rintro e w' ⟨rfl, rfl⟩)
        | (go_at_call 20; (with_reducible refine (part_0 v p0 hv H0.out _).mono ?_); rintro e w' ⟨rfl, rfl⟩)
        | (go_at_call 66; (with_reducible refine (isOf_n [83, 84, 68] 106 106 (by decide) (by decide) false (by decide) _).mono ?_); rintro e w' ⟨rfl, rfl⟩)
        | (go_at_call 66; (with_reducible refine (isOf_n [83, 84, 68] 83 83 (by decide) (by decide) true (by decide) _).mono ?_); rintro e w' ⟨rfl, rfl⟩)
        | (go_at_call 66; (with_reducible refine (isOf_n [83, 84, 68] 84 84 (by decide) (by decide) true (by decide) _).mono ?_); rintro e w' ⟨rfl, rfl⟩)
        | (go_at_call 66; (with_reducible refine (isOf_n [83, 84, 68] 105 105 (by decide) (by decide) false (by decide) _).mono ?_); rintro e w' ⟨rfl, rfl⟩)
        | (go_at_call 66; (with_reducible refine (isOf_n [83, 84, 68] 68 68 (by decide) (by decide) true (by decide) _).mono ?_); rintro e w' ⟨rfl, rfl⟩)
        | (go_at_call 66; (with_reducible refine (isOf_n [83, 84, 68] 97 97 (by decide) (by decide) false (by decide) _).mono ?_); rintro e w' ⟨rfl, rfl⟩))
      go_ret
      refine ⟨?_, HK.out.drewN _⟩
      rw [HR.out]
      simp [C0.out, C1.out, eqD]
  · have t0 := neT c0
    have C0 := Lib.hid c0
    clear c0
    go_enter Tryz.func65, Tryz.ntmps65
    go_wp2_with fail
    go_quiet ((go_at_call 20; with_reducible exact part_26 v p26 hv H26.out _ _))
    go_wp2_with (first
      | (go_at_call 20; (with_reducible refine (part_21 v p21 hv H21.out _).mono ?_); rintro e w' ⟨rfl, rfl⟩)
      | (go_at_call 20; (with_reducible refine (part_16 v p16 hv H16.out _).mono ?_); rintro e w' ⟨rfl, rfl⟩)
      | (go_at_call 20; (with_reducible refine (part_11 v p11 hv H11.out _).mono ?_); rintro e w' ⟨rfl, rfl⟩)
      | (go_at_call 20; (with_reducible refine (part_6 v p6 hv H6.out _).mono ?_); rintro e w' ⟨rfl, rfl⟩)
      | (go_at_call 20; (with_reducible refine (part_0 v p0 hv H0.out _).mono ?_); rintro e w' ⟨rfl, rfl⟩)
      | (go_at_call 66; (with_reducible refine (isOf_n [83, 84, 68] 106 106 (by decide) (by decide) false (by decide) _).mono ?_); rintro e w' ⟨rfl, rfl⟩)
      | (go_at_call 66; (with_reducible refine (isOf_n [83, 84, 68] 83 83 (by decide) (by decide) true (by decide) _).mono ?_); rintro e w' ⟨rfl, rfl⟩)
      | (go_at_call 66; (with_reducible refine (isOf_n [83, 84, 68] 84 84 (by decide) (by decide) true (by decide) _).mono ?_); rintro e w' ⟨rfl, rfl⟩)
      | (go_at_call 66; (with_reducible refine (isOf_n [83, 84, 68] 105 105 (by decide) (by decide) false (by decide) _).mono ?_); rintro e w' ⟨rfl, rfl⟩)
      | (go_at_call 66; (with_reducible refine (isOf_n [83, 84, 68] 68 68 (by decide) (by decide) true (by decide) _).mono ?_); rintro e w' ⟨rfl, rfl⟩)
      | (go_at_call 66; (with_reducible refine (isOf_n [83, 84, 68] 97 97 (by decide) (by decide) false (by decide) _).mono ?_); rintro e w' ⟨rfl, rfl⟩))
    go_ret
    refine ⟨?_, HK.out.drewN _⟩
    rw [HR.out]
    simp [C0.out, eqD]
set_option maxRecDepth 100000 in
set_option maxHeartbeats 4000000 in
theorem matches_2 (v : Int) (hv : 0 ≤ v ∧ v < 4294967296) (nm od : List UInt8) (mi : Nat) (kk : Nat) (ks : Value) (p26 p21 p16 p11 p6 p0 : Int) (H26 : Hid (Cd.part v 26 6 = p26)) (H21 : Hid (Cd.part v 21 5 = p21)) (H16 : Hid (Cd.part v 16 5 = p16)) (H11 : Hid (Cd.part v 11 5 = p11)) (H6 : Hid (Cd.part v 6 5 = p6)) (H0 : Hid (Cd.part v 0 6 = p0)) (w : World) :
    Calls Tryz.prog 65 #[.int .u32 v, .agg #[.string ⟨nm.toArray⟩, .int .i64 0, .int .i64 mi, .string ⟨([83] : List UInt8).toArray⟩, .string ⟨od.toArray⟩, ks]] w fun e w' => e = .returned (.bool (rowB p26 p21 p16 p11 p6 p0 ⟨nm, 0, mi, [83], od, kk⟩)) ∧ Keeps (fun _ => False) w w' := by
  have HB := Lib.hid (blk_alloc_new w (.cells #[.string ⟨nm.toArray⟩, .int .i64 0, .int .i64 mi, .string ⟨([83] : List UInt8).toArray⟩, .string ⟨od.toArray⟩, ks] 109 (0, 0)))
  have HK := Lib.hid ((Keeps.refl (fun _ => False) w).alloc (.cells #[.string ⟨nm.toArray⟩, .int .i64 0, .int .i64 mi, .string ⟨([83] : List UInt8).toArray⟩, .string ⟨od.toArray⟩, ks] 109 (0, 0)))
  have HR : Hid (rowB p26 p21 p16 p11 p6 p0 ⟨nm, 0, mi, [83], od, kk⟩ = (decide (p26 = 0) && decide (p16 = 0) && decide (p11 = 0) && decide (p6 = 0) && decide (p0 = (mi : Int)))) := Lib.hid (by
    have f106 : Cd.has [83] 106 = false := by decide
    have f83 : Cd.has [83] 83 = true := by decide
    have f84 : Cd.has [83] 84 = false := by decide
    have f105 : Cd.has [83] 105 = false := by decide
    have f68 : Cd.has [83] 68 = false := by decide
    have f97 : Cd.has [83] 97 = false := by decide
    have em : Cd.mid ⟨nm, 0, mi, [83], od, kk⟩ = 0 := rfl
    have el : Cd.low ⟨nm, 0, mi, [83], od, kk⟩ = (mi : Int) := rfl
    unfold rowB
    rw [em, el]
    simp only [f106, f83, f84, f105, f68, f97, Bool.true_or, Bool.false_or, Bool.or_true, Bool.and_true, Bool.true_and, Bool.and_assoc]
    all_goals first | rfl | simp)
  by_cases c0 : p26 = 0
  · have t0 := neF c0
    have C0 := Lib.hid c0
    clear c0
    by_cases c1 : p16 = 0
    · have t1 := neF c1
      have C1 := Lib.hid c1
      clear c1
      by_cases c2 : p11 = 0
      · have t2 := neF c2
        have C2 := Lib.hid c2
        clear c2
        by_cases c3 : p6 = 0
        · have t3 := neF c3
          have C3 := Lib.hid c3
          clear c3
          go_enter Tryz.func65, Tryz.ntmps65
          go_wp2_with fail
          go_quiet ((go_at_call 20; with_reducible exact part_26 v p26 hv H26.out _ _))
          go_wp2_with (first
            | (go_at_call 20; (with_reducible refine (part_21 v p21 hv H21.out _).mono ?_); rintro e w' ⟨rfl, rfl⟩)
            | (go_at_call 20; (with_reducible refine (part_16 v p16 hv H16.out _).mono ?_); rintro e w' ⟨rfl, rfl⟩)
            | (go_at_call 20; (with_reducible refine (part_11 v p11 hv H11.out _).mono ?_); rintro e w' ⟨rfl, rfl⟩)
            | (go_at_call 20; (with_reducible refine (part_6 v p6 hv H6.out _).mono ?_); rintro e w' ⟨rfl, rfl⟩)
            | (go_at_call 20; (with_reducible refine (part_0 v p0 hv H0.out _).mono ?_); rintro e w' ⟨rfl, rfl⟩)
            | (go_at_call 66; (with_reducible refine (isOf_n [83] 106 106 (by decide) (by decide) false (by decide) _).mono ?_); rintro e w' ⟨rfl, rfl⟩)
            | (go_at_call 66; (with_reducible refine (isOf_n [83] 83 83 (by decide) (by decide) true (by decide) _).mono ?_); rintro e w' ⟨rfl, rfl⟩)
            | (go_at_call 66; (with_reducible refine (isOf_n [83] 84 84 (by decide) (by decide) false (by decide) _).mono ?_); rintro e w' ⟨rfl, rfl⟩)
            | (go_at_call 66; (with_reducible refine (isOf_n [83] 105 105 (by decide) (by decide) false (by decide) _).mono ?_); rintro e w' ⟨rfl, rfl⟩)
            | (go_at_call 66; (with_reducible refine (isOf_n [83] 68 68 (by decide) (by decide) false (by decide) _).mono ?_); rintro e w' ⟨rfl, rfl⟩)
            | (go_at_call 66; (with_reducible refine (isOf_n [83] 97 97 (by decide) (by decide) false (by decide) _).mono ?_); rintro e w' ⟨rfl, rfl⟩))
          go_ret
          refine ⟨?_, HK.out.drewN _⟩
          rw [HR.out]
          simp [C0.out, C1.out, C2.out, C3.out, eqD]
        · have t3 := neT c3
          have C3 := Lib.hid c3
          clear c3
          go_enter Tryz.func65, Tryz.ntmps65
          go_wp2_with fail
          go_quiet ((go_at_call 20; with_reducible exact part_26 v p26 hv H26.out _ _))
          go_wp2_with (first
            | (go_at_call 20; (with_reducible refine (part_21 v p21 hv H21.out _).mono ?_); rintro e w' ⟨rfl, rfl⟩)
            | (go_at_call 20; (with_reducible refine (part_16 v p16 hv H16.out _).mono ?_); rintro e w' ⟨rfl, rfl⟩)
            | (go_at_call 20; (with_reducible refine (part_11 v p11 hv H11.out _).mono ?_); rintro e w' ⟨rfl, rfl⟩)
            | (go_at_call 20; (with_reducible refine (part_6 v p6 hv H6.out _).mono ?_); rintro e w' ⟨rfl, rfl⟩)
            | (go_at_call 20; (with_reducible refine (part_0 v p0 hv H0.out _).mono ?_); rintro e w' ⟨rfl, rfl⟩)
            | (go_at_call 66; (with_reducible refine (isOf_n [83] 106 106 (by decide) (by decide) false (by decide) _).mono ?_); rintro e w' ⟨rfl, rfl⟩)
            | (go_at_call 66; (with_reducible refine (isOf_n [83] 83 83 (by decide) (by decide) true (by decide) _).mono ?_); rintro e w' ⟨rfl, rfl⟩)
            | (go_at_call 66; (with_reducible refine (isOf_n [83] 84 84 (by decide) (by decide) false (by decide) _).mono ?_); rintro e w' ⟨rfl, rfl⟩)
            | (go_at_call 66; (with_reducible refine (isOf_n [83] 105 105 (by decide) (by decide) false (by decide) _).mono ?_); rintro e w' ⟨rfl, rfl⟩)
            | (go_at_call 66; (with_reducible refine (isOf_n [83] 68 68 (by decide) (by decide) false (by decide) _).mono ?_); rintro e w' ⟨rfl, rfl⟩)
            | (go_at_call 66; (with_reducible refine (isOf_n [83] 97 97 (by decide) (by decide) false (by decide) _).mono ?_); rintro e w' ⟨rfl, rfl⟩))
          go_ret
          refine ⟨?_, HK.out.drewN _⟩
          rw [HR.out]
          simp [C0.out, C1.out, C2.out, C3.out, eqD]
      · have t2 := neT c2
        have C2 := Lib.hid c2
        clear c2
        go_enter Tryz.func65, Tryz.ntmps65
        go_wp2_with fail
        go_quiet ((go_at_call 20; with_reducible exact part_26 v p26 hv H26.out _ _))
        go_wp2_with (first
          | (go_at_call 20; (with_reducible refine (part_21 v p21 hv H21.out _).mono ?_); rintro e w' ⟨rfl, rfl⟩)
          | (go_at_call 20; (with_reducible refine (part_16 v p16 hv H16.out _).mono ?_); rintro e w' ⟨rfl, rfl⟩)
          | (go_at_call 20; (with_reducible refine (part_11 v p11 hv H11.out _).mono ?_); rintro e w' ⟨rfl, rfl⟩)
          | (go_at_call 20; (with_reducible refine (part_6 v p6 hv H6.out _).mono ?_); rintro e w' ⟨rfl, rfl⟩)
          | (go_at_call 20; (with_reducible refine (part_0 v p0 hv H0.out _).mono ?_); rintro e w' ⟨rfl, rfl⟩)
          | (go_at_call 66; (with_reducible refine (isOf_n [83] 106 106 (by decide) (by decide) false (by decide) _).mono ?_); rintro e w' ⟨rfl, rfl⟩)
          | (go_at_call 66; (with_reducible refine (isOf_n [83] 83 83 (by decide) (by decide) true (by decide) _).mono ?_); rintro e w' ⟨rfl, rfl⟩)
          | (go_at_call 66; (with_reducible refine (isOf_n [83] 84 84 (by decide) (by decide) false (by decide) _).mono ?_); rintro e w' ⟨rfl, rfl⟩)
          | (go_at_call 66; (with_reducible refine (isOf_n [83] 105 105 (by decide) (by decide) false (by decide) _).mono ?_); rintro e w' ⟨rfl, rfl⟩)
          | (go_at_call 66; (with_reducible refine (isOf_n [83] 68 68 (by decide) (by decide) false (by decide) _).mono ?_); rintro e w' ⟨rfl, rfl⟩)
          | (go_at_call 66; (with_reducible refine (isOf_n [83] 97 97 (by decide) (by decide) false (by decide) _).mono ?_); rintro e w' ⟨rfl, rfl⟩))
        go_ret
        refine ⟨?_, HK.out.drewN _⟩
        rw [HR.out]
        simp [C0.out, C1.out, C2.out, eqD]
    · have t1 := neT c1
      have C1 := Lib.hid c1
      clear c1
      go_enter Tryz.func65, Tryz.ntmps65
      go_wp2_with fail
      go_quiet ((go_at_call 20; with_reducible exact part_26 v p26 hv H26.out _ _))
      go_wp2_with (first
        | (go_at_call 20; (with_reducible refine (part_21 v p21 hv H21.out _).mono ?_); rintro e w' ⟨rfl, rfl⟩)
        | (go_at_call 20; (with_reducible refine (part_16 v p16 hv H16.out _).mono ?_); rintro e w' ⟨rfl, rfl⟩)
        | (go_at_call 20; (with_reducible refine (part_11 v p11 hv H11.out _).mono ?_); rintro e w' ⟨rfl, rfl⟩)
        | (go_at_call 20; (with_reducible refine (part_6 v p6 hv H6.out _).mono ?_); rintro e w' ⟨rfl, rfl⟩)
        | (go_at_call 20; (with_reducible refine (part_0 v p0 hv H0.out _).mono ?_); rintro e w' ⟨rfl, rfl⟩)
        | (go_at_call 66; (with_reducible refine (isOf_n [83] 106 106 (by decide) (by decide) false (by decide) _).mono ?_); rintro e w' ⟨rfl, rfl⟩)
        | (go_at_call 66; (with_reducible refine (isOf_n [83] 83 83 (by decide) (by decide) true (by decide) _).mono ?_); rintro e w' ⟨rfl, rfl⟩)
        | (go_at_call 66; (with_reducible refine (isOf_n [83] 84 84 (by decide) (by decide) false (by decide) _).mono ?_); rintro e w' ⟨rfl, rfl⟩)
        | (go_at_call 66; (with_reducible refine (isOf_n [83] 105 105 (by decide) (by decide) false (by decide) _).mono ?_); rintro e w' ⟨rfl, rfl⟩)
        | (go_at_call 66; (with_reducible refine (isOf_n [83] 68 68 (by decide) (by decide) false (by decide) _).mono ?_); rintro e w' ⟨rfl, rfl⟩)
        | (go_at_call 66; (with_reducible refine (isOf_n [83] 97 97 (by decide) (by decide) false (by decide) _).mono ?_); rintro e w' ⟨rfl, rfl⟩))
      go_ret
      refine ⟨?_, HK.out.drewN _⟩
      rw [HR.out]
      simp [C0.out, C1.out, eqD]
  · have t0 := neT c0
    have C0 := Lib.hid c0
    clear c0
    go_enter Tryz.func65, Tryz.ntmps65
    go_wp2_with fail
    go_quiet ((go_at_call 20; with_reducible exact part_26 v p26 hv H26.out _ _))
    go_wp2_with (first
      | (go_at_call 20; (with_reducible refine (part_21 v p21 hv H21.out _).mono ?_); rintro e w' ⟨rfl, rfl⟩)
      | (go_at_call 20; (with_reducible refine (part_16 v p16 hv H16.out _).mono ?_); rintro e w' ⟨rfl, rfl⟩)
      | (go_at_call 20; (with_reducible refine (part_11 v p11 hv H11.out _).mono ?_); rintro e w' ⟨rfl, rfl⟩)
      | (go_at_call 20; (with_reducible refine (part_6 v p6 hv H6.out _).mono ?_); rintro e w' ⟨rfl, rfl⟩)
      | (go_at_call 20; (with_reducible refine (part_0 v p0 hv H0.out _).mono ?_); rintro e w' ⟨rfl, rfl⟩)
      | (go_at_call 66; (with_reducible refine (isOf_n [83] 106 106 (by decide) (by decide) false (by decide) _).mono ?_); rintro e w' ⟨rfl, rfl⟩)
      | (go_at_call 66; (with_reducible refine (isOf_n [83] 83 83 (by decide) (by decide) true (by decide) _).mono ?_); rintro e w' ⟨rfl, rfl⟩)
      | (go_at_call 66; (with_reducible refine (isOf_n [83] 84 84 (by decide) (by decide) false (by decide) _).mono ?_); rintro e w' ⟨rfl, rfl⟩)
      | (go_at_call 66; (with_reducible refine (isOf_n [83] 105 105 (by decide) (by decide) false (by decide) _).mono ?_); rintro e w' ⟨rfl, rfl⟩)
      | (go_at_call 66; (with_reducible refine (isOf_n [83] 68 68 (by decide) (by decide) false (by decide) _).mono ?_); rintro e w' ⟨rfl, rfl⟩)
      | (go_at_call 66; (with_reducible refine (isOf_n [83] 97 97 (by decide) (by decide) false (by decide) _).mono ?_); rintro e w' ⟨rfl, rfl⟩))
    go_ret
    refine ⟨?_, HK.out.drewN _⟩
    rw [HR.out]
    simp [C0.out, eqD]
set_option maxRecDepth 100000 in
set_option maxHeartbeats 4000000 in
theorem matches_3 (v : Int) (hv : 0 ≤ v ∧ v < 4294967296) (nm od : List UInt8) (mi : Nat) (kk : Nat) (ks : Value) (p26 p21 p16 p11 p6 p0 : Int) (H26 : Hid (Cd.part v 26 6 = p26)) (H21 : Hid (Cd.part v 21 5 = p21)) (H16 : Hid (Cd.part v 16 5 = p16)) (H11 : Hid (Cd.part v 11 5 = p11)) (H6 : Hid (Cd.part v 6 5 = p6)) (H0 : Hid (Cd.part v 0 6 = p0)) (w : World) :
    Calls Tryz.prog 65 #[.int .u32 v, .agg #[.string ⟨nm.toArray⟩, .int .i64 0, .int .i64 mi, .string ⟨([83, 68] : List UInt8).toArray⟩, .string ⟨od.toArray⟩, ks]] w fun e w' => e = .returned (.bool (rowB p26 p21 p16 p11 p6 p0 ⟨nm, 0, mi, [83, 68], od, kk⟩)) ∧ Keeps (fun _ => False) w w' := by
  have HB := Lib.hid (blk_alloc_new w (.cells #[.string ⟨nm.toArray⟩, .int .i64 0, .int .i64 mi, .string ⟨([83, 68] : List UInt8).toArray⟩, .string ⟨od.toArray⟩, ks] 109 (0, 0)))
  have HK := Lib.hid ((Keeps.refl (fun _ => False) w).alloc (.cells #[.string ⟨nm.toArray⟩, .int .i64 0, .int .i64 mi, .string ⟨([83, 68] : List UInt8).toArray⟩, .string ⟨od.toArray⟩, ks] 109 (0, 0)))
  have HR : Hid (rowB p26 p21 p16 p11 p6 p0 ⟨nm, 0, mi, [83, 68], od, kk⟩ = (decide (p26 = 0) && decide (p16 = 0) && decide (p6 = 0) && decide (p0 = (mi : Int)))) := Lib.hid (by
    have f106 : Cd.has [83, 68] 106 = false := by decide
    have f83 : Cd.has [83, 68] 83 = true := by decide
    have f84 : Cd.has [83, 68] 84 = false := by decide
    have f105 : Cd.has [83, 68] 105 = false := by decide
    have f68 : Cd.has [83, 68] 68 = true := by decide
    have f97 : Cd.has [83, 68] 97 = false := by decide
    have em : Cd.mid ⟨nm, 0, mi, [83, 68], od, kk⟩ = 0 := rfl
    have el : Cd.low ⟨nm, 0, mi, [83, 68], od, kk⟩ = (mi : Int) := rfl
    unfold rowB
    rw [em, el]
    simp only [f106, f83, f84, f105, f68, f97, Bool.true_or, Bool.false_or, Bool.or_true, Bool.and_true, Bool.true_and, Bool.and_assoc]
    all_goals first | rfl | simp)
  by_cases c0 : p26 = 0
  · have t0 := neF c0
    have C0 := Lib.hid c0
    clear c0
    by_cases c1 : p16 = 0
    · have t1 := neF c1
      have C1 := Lib.hid c1
      clear c1
      by_cases c2 : p6 = 0
      · have t2 := neF c2
        have C2 := Lib.hid c2
        clear c2
        go_enter Tryz.func65, Tryz.ntmps65
        go_wp2_with fail
        go_quiet ((go_at_call 20; with_reducible exact part_26 v p26 hv H26.out _ _))
        go_wp2_with (first
          | (go_at_call 20; (with_reducible refine (part_21 v p21 hv H21.out _).mono ?_); rintro e w' ⟨rfl, rfl⟩)
          | (go_at_call 20; (with_reducible refine (part_16 v p16 hv H16.out _).mono ?_); rintro e w' ⟨rfl, rfl⟩)
          | (go_at_call 20; (with_reducible refine (part_11 v p11 hv H11.out _).mono ?_); rintro e w' ⟨rfl, rfl⟩)
          | (go_at_call 20; (with_reducible refine (part_6 v p6 hv H6.out _).mono ?_); rintro e w' ⟨rfl, rfl⟩)
          | (go_at_call 20; (with_reducible refine (part_0 v p0 hv H0.out _).mono ?_); rintro e w' ⟨rfl, rfl⟩)
          | (go_at_call 66; (with_reducible refine (isOf_n [83, 68] 106 106 (by decide) (by decide) false (by decide) _).mono ?_); rintro e w' ⟨rfl, rfl⟩)
          | (go_at_call 66; (with_reducible refine (isOf_n [83, 68] 83 83 (by decide) (by decide) true (by decide) _).mono ?_); rintro e w' ⟨rfl, rfl⟩)
          | (go_at_call 66; (with_reducible refine (isOf_n [83, 68] 84 84 (by decide) (by decide) false (by decide) _).mono ?_); rintro e w' ⟨rfl, rfl⟩)
          | (go_at_call 66; (with_reducible refine (isOf_n [83, 68] 105 105 (by decide) (by decide) false (by decide) _).mono ?_); rintro e w' ⟨rfl, rfl⟩)
          | (go_at_call 66; (with_reducible refine (isOf_n [83, 68] 68 68 (by decide) (by decide) true (by decide) _).mono ?_); rintro e w' ⟨rfl, rfl⟩)
          | (go_at_call 66; (with_reducible refine (isOf_n [83, 68] 97 97 (by decide) (by decide) false (by decide) _).mono ?_); rintro e w' ⟨rfl, rfl⟩))
        go_ret
        refine ⟨?_, HK.out.drewN _⟩
        rw [HR.out]
        simp [C0.out, C1.out, C2.out, eqD]
      · have t2 := neT c2
        have C2 := Lib.hid c2
        clear c2
        go_enter Tryz.func65, Tryz.ntmps65
        go_wp2_with fail
        go_quiet ((go_at_call 20; with_reducible exact part_26 v p26 hv H26.out _ _))
        go_wp2_with (first
          | (go_at_call 20; (with_reducible refine (part_21 v p21 hv H21.out _).mono ?_); rintro e w' ⟨rfl, rfl⟩)
          | (go_at_call 20; (with_reducible refine (part_16 v p16 hv H16.out _).mono ?_); rintro e w' ⟨rfl, rfl⟩)
          | (go_at_call 20; (with_reducible refine (part_11 v p11 hv H11.out _).mono ?_); rintro e w' ⟨rfl, rfl⟩)
          | (go_at_call 20; (with_reducible refine (part_6 v p6 hv H6.out _).mono ?_); rintro e w' ⟨rfl, rfl⟩)
          | (go_at_call 20; (with_reducible refine (part_0 v p0 hv H0.out _).mono ?_); rintro e w' ⟨rfl, rfl⟩)
          | (go_at_call 66; (with_reducible refine (isOf_n [83, 68] 106 106 (by decide) (by decide) false (by decide) _).mono ?_); rintro e w' ⟨rfl, rfl⟩)
          | (go_at_call 66; (with_reducible refine (isOf_n [83, 68] 83 83 (by decide) (by decide) true (by decide) _).mono ?_); rintro e w' ⟨rfl, rfl⟩)
          | (go_at_call 66; (with_reducible refine (isOf_n [83, 68] 84 84 (by decide) (by decide) false (by decide) _).mono ?_); rintro e w' ⟨rfl, rfl⟩)
          | (go_at_call 66; (with_reducible refine (isOf_n [83, 68] 105 105 (by decide) (by decide) false (by decide) _).mono ?_); rintro e w' ⟨rfl, rfl⟩)
          | (go_at_call 66; (with_reducible refine (isOf_n [83, 68] 68 68 (by decide) (by decide) true (by decide) _).mono ?_); rintro e w' ⟨rfl, rfl⟩)
          | (go_at_call 66; (with_reducible refine (isOf_n [83, 68] 97 97 (by decide) (by decide) false (by decide) _).mono ?_); rintro e w' ⟨rfl, rfl⟩))
        go_ret
        refine ⟨?_, HK.out.drewN _⟩
        rw [HR.out]
        simp [C0.out, C1.out, C2.out, eqD]
    · have t1 := neT c1
      have C1 := Lib.hid c1
      clear c1
      go_enter Tryz.func65, Tryz.ntmps65
      go_wp2_with fail
      go_quiet ((go_at_call 20; with_reducible exact part_26 v p26 hv H26.out _ _))
      go_wp2_with (first
        | (go_at_call 20; (with_reducible refine (part_21 v p21 hv H21.out _).mono ?_); rintro e w' ⟨rfl, rfl⟩)
        | (go_at_call 20; (with_reducible refine (part_16 v p16 hv H16.out _).mono ?_); rintro e w' ⟨rfl, rfl⟩)
        | (go_at_call 20; (with_reducible refine (part_11 v p11 hv H11.out _).mono ?_); rintro e w' ⟨rfl, rfl⟩)
        | (go_at_call 20; (with_reducible refine (part_6 v p6 hv H6.out _).mono ?_); rintro e w' ⟨rfl, rfl⟩)
        | (go_at_call 20; (with_reducible refine (part_0 v p0 hv H0.out _).mono ?_); rintro e w' ⟨rfl, rfl⟩)
        | (go_at_call 66; (with_reducible refine (isOf_n [83, 68] 106 106 (by decide) (by decide) false (by decide) _).mono ?_); rintro e w' ⟨rfl, rfl⟩)
        | (go_at_call 66; (with_reducible refine (isOf_n [83, 68] 83 83 (by decide) (by decide) true (by decide) _).mono ?_); rintro e w' ⟨rfl, rfl⟩)
        | (go_at_call 66; (with_reducible refine (isOf_n [83, 68] 84 84 (by decide) (by decide) false (by decide) _).mono ?_); rintro e w' ⟨rfl, rfl⟩)
        | (go_at_call 66; (with_reducible refine (isOf_n [83, 68] 105 105 (by decide) (by decide) false (by decide) _).mono ?_); rintro e w' ⟨rfl, rfl⟩)
        | (go_at_call 66; (with_reducible refine (isOf_n [83, 68] 68 68 (by decide) (by decide) true (by decide) _).mono ?_); rintro e w' ⟨rfl, rfl⟩)
        | (go_at_call 66; (with_reducible refine (isOf_n [83, 68] 97 97 (by decide) (by decide) false (by decide) _).mono ?_); rintro e w' ⟨rfl, rfl⟩))
      go_ret
      refine ⟨?_, HK.out.drewN _⟩
      rw [HR.out]
      simp [C0.out, C1.out, eqD]
  · have t0 := neT c0
    have C0 := Lib.hid c0
    clear c0
    go_enter Tryz.func65, Tryz.ntmps65
    go_wp2_with fail
    go_quiet ((go_at_call 20; with_reducible exact part_26 v p26 hv H26.out _ _))
    go_wp2_with (first
      | (go_at_call 20; (with_reducible refine (part_21 v p21 hv H21.out _).mono ?_); rintro e w' ⟨rfl, rfl⟩)
      | (go_at_call 20; (with_reducible refine (part_16 v p16 hv H16.out _).mono ?_); rintro e w' ⟨rfl, rfl⟩)
      | (go_at_call 20; (with_reducible refine (part_11 v p11 hv H11.out _).mono ?_); rintro e w' ⟨rfl, rfl⟩)
      | (go_at_call 20; (with_reducible refine (part_6 v p6 hv H6.out _).mono ?_); rintro e w' ⟨rfl, rfl⟩)
      | (go_at_call 20; (with_reducible refine (part_0 v p0 hv H0.out _).mono ?_); rintro e w' ⟨rfl, rfl⟩)
      | (go_at_call 66; (with_reducible refine (isOf_n [83, 68] 106 106 (by decide) (by decide) false (by decide) _).mono ?_); rintro e w' ⟨rfl, rfl⟩)
      | (go_at_call 66; (with_reducible refine (isOf_n [83, 68] 83 83 (by decide) (by decide) true (by decide) _).mono ?_); rintro e w' ⟨rfl, rfl⟩)
      | (go_at_call 66; (with_reducible refine (isOf_n [83, 68] 84 84 (by decide) (by decide) false (by decide) _).mono ?_); rintro e w' ⟨rfl, rfl⟩)
      | (go_at_call 66; (with_reducible refine (isOf_n [83, 68] 105 105 (by decide) (by decide) false (by decide) _).mono ?_); rintro e w' ⟨rfl, rfl⟩)
      | (go_at_call 66; (with_reducible refine (isOf_n [83, 68] 68 68 (by decide) (by decide) true (by decide) _).mono ?_); rintro e w' ⟨rfl, rfl⟩)
      | (go_at_call 66; (with_reducible refine (isOf_n [83, 68] 97 97 (by decide) (by decide) false (by decide) _).mono ?_); rintro e w' ⟨rfl, rfl⟩))
    go_ret
    refine ⟨?_, HK.out.drewN _⟩
    rw [HR.out]
    simp [C0.out, eqD]
set_option maxRecDepth 100000 in
set_option maxHeartbeats 4000000 in
theorem matches_4 (v : Int) (hv : 0 ≤ v ∧ v < 4294967296) (nm od : List UInt8) (mi : Nat) (kk : Nat) (ks : Value) (p26 p21 p16 p11 p6 p0 : Int) (H26 : Hid (Cd.part v 26 6 = p26)) (H21 : Hid (Cd.part v 21 5 = p21)) (H16 : Hid (Cd.part v 16 5 = p16)) (H11 : Hid (Cd.part v 11 5 = p11)) (H6 : Hid (Cd.part v 6 5 = p6)) (H0 : Hid (Cd.part v 0 6 = p0)) (w : World) :
    Calls Tryz.prog 65 #[.int .u32 v, .agg #[.string ⟨nm.toArray⟩, .int .i64 0, .int .i64 mi, .string ⟨([] : List UInt8).toArray⟩, .string ⟨od.toArray⟩, ks]] w fun e w' => e = .returned (.bool (rowB p26 p21 p16 p11 p6 p0 ⟨nm, 0, mi, [], od, kk⟩)) ∧ Keeps (fun _ => False) w w' := by
  have HB := Lib.hid (blk_alloc_new w (.cells #[.string ⟨nm.toArray⟩, .int .i64 0, .int .i64 mi, .string ⟨([] : List UInt8).toArray⟩, .string ⟨od.toArray⟩, ks] 109 (0, 0)))
  have HK := Lib.hid ((Keeps.refl (fun _ => False) w).alloc (.cells #[.string ⟨nm.toArray⟩, .int .i64 0, .int .i64 mi, .string ⟨([] : List UInt8).toArray⟩, .string ⟨od.toArray⟩, ks] 109 (0, 0)))
  have HR : Hid (rowB p26 p21 p16 p11 p6 p0 ⟨nm, 0, mi, [], od, kk⟩ = (decide (p26 = 0) && decide (p21 = 0) && decide (p16 = 0) && decide (p11 = 0) && decide (p6 = 0) && decide (p0 = (mi : Int)))) := Lib.hid (by
    have f106 : Cd.has [] 106 = false := by decide
    have f83 : Cd.has [] 83 = false := by decide
    have f84 : Cd.has [] 84 = false := by decide
    have f105 : Cd.has [] 105 = false := by decide
    have f68 : Cd.has [] 68 = false := by decide
    have f97 : Cd.has [] 97 = false := by decide
    have em : Cd.mid ⟨nm, 0, mi, [], od, kk⟩ = 0 := rfl
    have el : Cd.low ⟨nm, 0, mi, [], od, kk⟩ = (mi : Int) := rfl
    unfold rowB
    rw [em, el]
    simp only [f106, f83, f84, f105, f68, f97, Bool.true_or, Bool.false_or, Bool.or_true, Bool.and_true, Bool.true_and, Bool.and_assoc]
    all_goals first | rfl | simp)
  by_cases c0 : p26 = 0
  · have t0 := neF c0
    have C0 := Lib.hid c0
    clear c0
    by_cases c1 : p21 = 0
    · have t1 := neF c1
      have C1 := Lib.hid c1
      clear c1
      by_cases c2 : p16 = 0
      · have t2 := neF c2
        have C2 := Lib.hid c2
        clear c2
        by_cases c3 : p11 = 0
        · have t3 := neF c3
          have C3 := Lib.hid c3
          clear c3
          by_cases c4 : p6 = 0
          · have t4 := neF c4
            have C4 := Lib.hid c4
            clear c4
            go_enter Tryz.func65, Tryz.ntmps65
            go_wp2_with fail
            go_quiet ((go_at_call 20; with_reducible exact part_26 v p26 hv H26.out _ _))
            go_wp2_with (first
              | (go_at_call 20; (with_reducible refine (part_21 v p21 hv H21.out _).mono ?_); rintro e w' ⟨rfl, rfl⟩)
              | (go_at_call 20; (with_reducible refine (part_16 v p16 hv H16.out _).mono ?_); rintro e w' ⟨rfl, rfl⟩)
              | (go_at_call 20; (with_reducible refine (part_11 v p11 hv H11.out _).mono ?_); rintro e w' ⟨rfl, rfl⟩)
              | (go_at_call 20; (with_reducible refine (part_6 v p6 hv H6.out _).mono ?_); rintro e w' ⟨rfl, rfl⟩)
              | (go_at_call 20; (with_reducible refine (part_0 v p0 hv H0.out _).mono ?_); rintro e w' ⟨rfl, rfl⟩)
              | (go_at_call 66; (with_reducible refine (isOf_n [] 106 106 (by decide) (by decide) false (by decide) _).mono ?_); rintro e w' ⟨rfl, rfl⟩)
              | (go_at_call 66; (with_reducible refine (isOf_n [] 83 83 (by decide) (by decide) false (by decide) _).mono ?_); rintro e w' ⟨rfl, rfl⟩)
              | (go_at_call 66; (with_reducible refine (isOf_n [] 84 84 (by decide) (by decide) false (by decide) _).mono ?_); rintro e w' ⟨rfl, rfl⟩)
              | (go_at_call 66; (with_reducible refine (isOf_n [] 105 105 (by decide) (by decide) false (by decide) _).mono ?_); rintro e w' ⟨rfl, rfl⟩)
              | (go_at_call 66; (with_reducible refine (isOf_n [] 68 68 (by decide) (by decide) false (by decide) _).mono ?_); rintro e w' ⟨rfl, rfl⟩)
              | (go_at_call 66; (with_reducible refine (isOf_n [] 97 97 (by decide) (by decide) false (by decide) _).mono ?_); rintro e w' ⟨rfl, rfl⟩))
            go_ret
            refine ⟨?_, HK.out.drewN _⟩
            rw [HR.out]
            simp [C0.out, C1.out, C2.out, C3.out, C4.out, eqD]
          · have t4 := neT c4
            have C4 := Lib.hid c4
            clear c4
            go_enter Tryz.func65, Tryz.ntmps65
            go_wp2_with fail
            go_quiet ((go_at_call 20; with_reducible exact part_26 v p26 hv H26.out _ _))
            go_wp2_with (first
              | (go_at_call 20; (with_reducible refine (part_21 v p21 hv H21.out _).mono ?_); rintro e w' ⟨rfl, rfl⟩)
              | (go_at_call 20; (with_reducible refine (part_16 v p16 hv H16.out _).mono ?_); rintro e w' ⟨rfl, rfl⟩)
              | (go_at_call 20; (with_reducible refine (part_11 v p11 hv H11.out _).mono ?_); rintro e w' ⟨rfl, rfl⟩)
              | (go_at_call 20; (with_reducible refine (part_6 v p6 hv H6.out _).mono ?_); rintro e w' ⟨rfl, rfl⟩)
              | (go_at_call 20; (with_reducible refine (part_0 v p0 hv H0.out _).mono ?_); rintro e w' ⟨rfl, rfl⟩)
              | (go_at_call 66; (with_reducible refine (isOf_n [] 106 106 (by decide) (by decide) false (by decide) _).mono ?_); rintro e w' ⟨rfl, rfl⟩)
              | (go_at_call 66; (with_reducible refine (isOf_n [] 83 83 (by decide) (by decide) false (by decide) _).mono ?_); rintro e w' ⟨rfl, rfl⟩)
              | (go_at_call 66; (with_reducible refine (isOf_n [] 84 84 (by decide) (by decide) false (by decide) _).mono ?_); rintro e w' ⟨rfl, rfl⟩)
              | (go_at_call 66; (with_reducible refine (isOf_n [] 105 105 (by decide) (by decide) false (by decide) _).mono ?_); rintro e w' ⟨rfl, rfl⟩)
              | (go_at_call 66; (with_reducible refine (isOf_n [] 68 68 (by decide) (by decide) false (by decide) _).mono ?_); rintro e w' ⟨rfl, rfl⟩)
              | (go_at_call 66; (with_reducible refine (isOf_n [] 97 97 (by decide) (by decide) false (by decide) _).mono ?_); rintro e w' ⟨rfl, rfl⟩))
            go_ret
            refine ⟨?_, HK.out.drewN _⟩
            rw [HR.out]
            simp [C0.out, C1.out, C2.out, C3.out, C4.out, eqD]
        · have t3 := neT c3
          have C3 := Lib.hid c3
          clear c3
          go_enter Tryz.func65, Tryz.ntmps65
          go_wp2_with fail
          go_quiet ((go_at_call 20; with_reducible exact part_26 v p26 hv H26.out _ _))
          go_wp2_with (first
            | (go_at_call 20; (with_reducible refine (part_21 v p21 hv H21.out _).mono ?_); rintro e w' ⟨rfl, rfl⟩)
            | (go_at_call 20; (with_reducible refine (part_16 v p16 hv H16.out _).mono ?_); rintro e w' ⟨rfl, rfl⟩)
            | (go_at_call 20; (with_reducible refine (part_11 v p11 hv H11.out _).mono ?_); rintro e w' ⟨rfl, rfl⟩)
            | (go_at_call 20; (with_reducible refine (part_6 v p6 hv H6.out _).mono ?_); rintro e w' ⟨rfl, rfl⟩)
            | (go_at_call 20; (with_reducible refine (part_0 v p0 hv H0.out _).mono ?_); rintro e w' ⟨rfl, rfl⟩)
            | (go_at_call 66; (with_reducible refine (isOf_n [] 106 106 (by decide) (by decide) false (by decide) _).mono ?_); rintro e w' ⟨rfl, rfl⟩)
            | (go_at_call 66; (with_reducible refine (isOf_n [] 83 83 (by decide) (by decide) false (by decide) _).mono ?_); rintro e w' ⟨rfl, rfl⟩)
            | (go_at_call 66; (with_reducible refine (isOf_n [] 84 84 (by decide) (by decide) false (by decide) _).mono ?_); rintro e w' ⟨rfl, rfl⟩)
            | (go_at_call 66; (with_reducible refine (isOf_n [] 105 105 (by decide) (by decide) false (by decide) _).mono ?_); rintro e w' ⟨rfl, rfl⟩)
            | (go_at_call 66; (with_reducible refine (isOf_n [] 68 68 (by decide) (by decide) false (by decide) _).mono ?_); rintro e w' ⟨rfl, rfl⟩)
            | (go_at_call 66; (with_reducible refine (isOf_n [] 97 97 (by decide) (by decide) false (by decide) _).mono ?_); rintro e w' ⟨rfl, rfl⟩))
          go_ret
          refine ⟨?_, HK.out.drewN _⟩
          rw [HR.out]
          simp [C0.out, C1.out, C2.out, C3.out, eqD]
      · have t2 := neT c2
        have C2 := Lib.hid c2
        clear c2
        go_enter Tryz.func65, Tryz.ntmps65
        go_wp2_with fail
        go_quiet ((go_at_call 20; with_reducible exact part_26 v p26 hv H26.out _ _))
        go_wp2_with (first
          | (go_at_call 20; (with_reducible refine (part_21 v p21 hv H21.out _).mono ?_); rintro e w' ⟨rfl, rfl⟩)
          | (go_at_call 20; (with_reducible refine (part_16 v p16 hv H16.out _).mono ?_); rintro e w' ⟨rfl, rfl⟩)
          | (go_at_call 20; (with_reducible refine (part_11 v p11 hv H11.out _).mono ?_); rintro e w' ⟨rfl, rfl⟩)
          | (go_at_call 20; (with_reducible refine (part_6 v p6 hv H6.out _).mono ?_); rintro e w' ⟨rfl, rfl⟩)
          | (go_at_call 20; (with_reducible refine (part_0 v p0 hv H0.out _).mono ?_); rintro e w' ⟨rfl, rfl⟩)
          | (go_at_call 66; (with_reducible refine (isOf_n [] 106 106 (by decide) (by decide) false (by decide) _).mono ?_); rintro e w' ⟨rfl, rfl⟩)
          | (go_at_call 66; (with_reducible refine (isOf_n [] 83 83 (by decide) (by decide) false (by decide) _).mono ?_); rintro e w' ⟨rfl, rfl⟩)
          | (go_at_call 66; (with_reducible refine (isOf_n [] 84 84 (by decide) (by decide) false (by decide) _).mono ?_); rintro e w' ⟨rfl, rfl⟩)
          | (go_at_call 66; (with_reducible refine (isOf_n [] 105 105 (by decide) (by decide) false (by decide) _).mono ?_); rintro e w' ⟨rfl, rfl⟩)
          | (go_at_call 66; (with_reducible refine (isOf_n [] 68 68 (by decide) (by decide) false (by decide) _).mono ?_); rintro e w' ⟨rfl, rfl⟩)
          | (go_at_call 66; (with_reducible refine (isOf_n [] 97 97 (by decide) (by decide) false (by decide) _).mono ?_); rintro e w' ⟨rfl, rfl⟩))
        go_ret
        refine ⟨?_, HK.out.drewN _⟩
        rw [HR.out]
        simp [C0.out, C1.out, C2.out, eqD]
    · have t1 := neT c1
      have C1 := Lib.hid c1
      clear c1
      go_enter Tryz.func65, Tryz.ntmps65
      go_wp2_with fail
      go_quiet ((go_at_call 20; with_reducible exact part_26 v p26 hv H26.out _ _))
      go_wp2_with (first
        | (go_at_call 20; (with_reducible refine (part_21 v p21 hv H21.out _).mono ?_); rintro e w' ⟨rfl, rfl⟩)
        | (go_at_call 20; (with_reducible refine (part_16 v p16 hv H16.out _).mono ?_); rintro e w' ⟨rfl, rfl⟩)
        | (go_at_call 20; (with_reducible refine (part_11 v p11 hv H11.out _).mono ?_); rintro e w' ⟨rfl, rfl⟩)
        | (go_at_call 20; (with_reducible refine (part_6 v p6 hv H6.out _).mono ?_); rintro e w' ⟨rfl, rfl⟩)
        | (go_at_call 20; (with_reducible refine (part_0 v p0 hv H0.out _).mono ?_); rintro e w' ⟨rfl, rfl⟩)
        | (go_at_call 66; (with_reducible refine (isOf_n [] 106 106 (by decide) (by decide) false (by decide) _).mono ?_); rintro e w' ⟨rfl, rfl⟩)
        | (go_at_call 66; (with_reducible refine (isOf_n [] 83 83 (by decide) (by decide) false (by decide) _).mono ?_); rintro e w' ⟨rfl, rfl⟩)
        | (go_at_call 66; (with_reducible refine (isOf_n [] 84 84 (by decide) (by decide) false (by decide) _).mono ?_); rintro e w' ⟨rfl, rfl⟩)
        | (go_at_call 66; (with_reducible refine (isOf_n [] 105 105 (by decide) (by decide) false (by decide) _).mono ?_); rintro e w' ⟨rfl, rfl⟩)
        | (go_at_call 66; (with_reducible refine (isOf_n [] 68 68 (by decide) (by decide) false (by decide) _).mono ?_); rintro e w' ⟨rfl, rfl⟩)
        | (go_at_call 66; (with_reducible refine (isOf_n [] 97 97 (by decide) (by decide) false (by decide) _).mono ?_); rintro e w' ⟨rfl, rfl⟩))
      go_ret
      refine ⟨?_, HK.out.drewN _⟩
      rw [HR.out]
      simp [C0.out, C1.out, eqD]
  · have t0 := neT c0
    have C0 := Lib.hid c0
    clear c0
    go_enter Tryz.func65, Tryz.ntmps65
    go_wp2_with fail
    go_quiet ((go_at_call 20; with_reducible exact part_26 v p26 hv H26.out _ _))
    go_wp2_with (first
      | (go_at_call 20; (with_reducible refine (part_21 v p21 hv H21.out _).mono ?_); rintro e w' ⟨rfl, rfl⟩)
      | (go_at_call 20; (with_reducible refine (part_16 v p16 hv H16.out _).mono ?_); rintro e w' ⟨rfl, rfl⟩)
      | (go_at_call 20; (with_reducible refine (part_11 v p11 hv H11.out _).mono ?_); rintro e w' ⟨rfl, rfl⟩)
      | (go_at_call 20; (with_reducible refine (part_6 v p6 hv H6.out _).mono ?_); rintro e w' ⟨rfl, rfl⟩)
      | (go_at_call 20; (with_reducible refine (part_0 v p0 hv H0.out _).mono ?_); rintro e w' ⟨rfl, rfl⟩)
      | (go_at_call 66; (with_reducible refine (isOf_n [] 106 106 (by decide) (by decide) false (by decide) _).mono ?_); rintro e w' ⟨rfl, rfl⟩)
      | (go_at_call 66; (with_reducible refine (isOf_n [] 83 83 (by decide) (by decide) false (by decide) _).mono ?_); rintro e w' ⟨rfl, rfl⟩)
      | (go_at_call 66; (with_reducible refine (isOf_n [] 84 84 (by decide) (by decide) false (by decide) _).mono ?_); rintro e w' ⟨rfl, rfl⟩)
      | (go_at_call 66; (with_reducible refine (isOf_n [] 105 105 (by decide) (by decide) false (by decide) _).mono ?_); rintro e w' ⟨rfl, rfl⟩)
      | (go_at_call 66; (with_reducible refine (isOf_n [] 68 68 (by decide) (by decide) false (by decide) _).mono ?_); rintro e w' ⟨rfl, rfl⟩)
      | (go_at_call 66; (with_reducible refine (isOf_n [] 97 97 (by decide) (by decide) false (by decide) _).mono ?_); rintro e w' ⟨rfl, rfl⟩))
    go_ret
    refine ⟨?_, HK.out.drewN _⟩
    rw [HR.out]
    simp [C0.out, eqD]
set_option maxRecDepth 100000 in
set_option maxHeartbeats 4000000 in
theorem matches_5 (v : Int) (hv : 0 ≤ v ∧ v < 4294967296) (nm od : List UInt8) (mi : Nat) (kk : Nat) (ks : Value) (p26 p21 p16 p11 p6 p0 : Int) (H26 : Hid (Cd.part v 26 6 = p26)) (H21 : Hid (Cd.part v 21 5 = p21)) (H16 : Hid (Cd.part v 16 5 = p16)) (H11 : Hid (Cd.part v 11 5 = p11)) (H6 : Hid (Cd.part v 6 5 = p6)) (H0 : Hid (Cd.part v 0 6 = p0)) (w : World) :
    Calls Tryz.prog 65 #[.int .u32 v, .agg #[.string ⟨nm.toArray⟩, .int .i64 0, .int .i64 mi, .string ⟨([68] : List UInt8).toArray⟩, .string ⟨od.toArray⟩, ks]] w fun e w' => e = .returned (.bool (rowB p26 p21 p16 p11 p6 p0 ⟨nm, 0, mi, [68], od, kk⟩)) ∧ Keeps (fun _ => False) w w' := by
  have HB := Lib.hid (blk_alloc_new w (.cells #[.string ⟨nm.toArray⟩, .int .i64 0, .int .i64 mi, .string ⟨([68] : List UInt8).toArray⟩, .string ⟨od.toArray⟩, ks] 109 (0, 0)))
  have HK := Lib.hid ((Keeps.refl (fun _ => False) w).alloc (.cells #[.string ⟨nm.toArray⟩, .int .i64 0, .int .i64 mi, .string ⟨([68] : List UInt8).toArray⟩, .string ⟨od.toArray⟩, ks] 109 (0, 0)))
  have HR : Hid (rowB p26 p21 p16 p11 p6 p0 ⟨nm, 0, mi, [68], od, kk⟩ = (decide (p26 = 0) && decide (p21 = 0) && decide (p16 = 0) && decide (p6 = 0) && decide (p0 = (mi : Int)))) := Lib.hid (by
    have f106 : Cd.has [68] 106 = false := by decide
    have f83 : Cd.has [68] 83 = false := by decide
    have f84 : Cd.has [68] 84 = false := by decide
    have f105 : Cd.has [68] 105 = false := by decide
    have f68 : Cd.has [68] 68 = true := by decide
    have f97 : Cd.has [68] 97 = false := by decide
    have em : Cd.mid ⟨nm, 0, mi, [68], od, kk⟩ = 0 := rfl
    have el : Cd.low ⟨nm, 0, mi, [68], od, kk⟩ = (mi : Int) := rfl
    unfold rowB
    rw [em, el]
    simp only [f106, f83, f84, f105, f68, f97, Bool.true_or, Bool.false_or, Bool.or_true, Bool.and_true, Bool.true_and, Bool.and_assoc]
    all_goals first | rfl | simp)
  by_cases c0 : p26 = 0
  · have t0 := neF c0
    have C0 := Lib.hid c0
    clear c0
    by_cases c1 : p21 = 0
    · have t1 := neF c1
      have C1 := Lib.hid c1
      clear c1
      by_cases c2 : p16 = 0
      · have t2 := neF c2
        have C2 := Lib.hid c2
        clear c2
        by_cases c3 : p6 = 0
        · have t3 := neF c3
          have C3 := Lib.hid c3
          clear c3
          go_enter Tryz.func65, Tryz.ntmps65
          go_wp2_with fail
          go_quiet ((go_at_call 20; with_reducible exact part_26 v p26 hv H26.out _ _))
          go_wp2_with (first
            | (go_at_call 20; (with_reducible refine (part_21 v p21 hv H21.out _).mono ?_); rintro e w' ⟨rfl, rfl⟩)
            | (go_at_call 20; (with_reducible refine (part_16 v p16 hv H16.out _).mono ?_); rintro e w' ⟨rfl, rfl⟩)
            | (go_at_call 20; (with_reducible refine (part_11 v p11 hv H11.out _).mono ?_); rintro e w' ⟨rfl, rfl⟩)
            | (go_at_call 20; (with_reducible refine (part_6 v p6 hv H6.out _).mono ?_); rintro e w' ⟨rfl, rfl⟩)
            | (go_at_call 20; (with_reducible refine (part_0 v p0 hv H0.out _).mono ?_); rintro e w' ⟨rfl, rfl⟩)
            | (go_at_call 66; (with_reducible refine (isOf_n [68] 106 106 (by decide) (by decide) false (by decide) _).mono ?_); rintro e w' ⟨rfl, rfl⟩)
            | (go_at_call 66; (with_reducible refine (isOf_n [68] 83 83 (by decide) (by decide) false (by decide) _).mono ?_); rintro e w' ⟨rfl, rfl⟩)
            | (go_at_call 66; (with_reducible refine (isOf_n [68] 84 84 (by decide) (by decide) false (by decide) _).mono ?_); rintro e w' ⟨rfl, rfl⟩)
            | (go_at_call 66; (with_reducible refine (isOf_n [68] 105 105 (by decide) (by decide) false (by decide) _).mono ?_); rintro e w' ⟨rfl, rfl⟩)
            | (go_at_call 66; (with_reducible refine (isOf_n [68] 68 68 (by decide) (by decide) true (by decide) _).mono ?_); rintro e w' ⟨rfl, rfl⟩)
            | (go_at_call 66; (with_reducible refine (isOf_n [68] 97 97 (by decide) (by decide) false (by decide) _).mono ?_); rintro e w' ⟨rfl, rfl⟩))
          go_ret
          refine ⟨?_, HK.out.drewN _⟩
          rw [HR.out]
          simp [C0.out, C1.out, C2.out, C3.out, eqD]
        · have t3 := neT c3
          have C3 := Lib.hid c3
          clear c3
          go_enter Tryz.func65, Tryz.ntmps65
          go_wp2_with fail
          go_quiet ((go_at_call 20; with_reducible exact part_26 v p26 hv H26.out _ _))
          go_wp2_with (first
            | (go_at_call 20; (with_reducible refine (part_21 v p21 hv H21.out _).mono ?_); rintro e w' ⟨rfl, rfl⟩)
            | (go_at_call 20; (with_reducible refine (part_16 v p16 hv H16.out _).mono ?_); rintro e w' ⟨rfl, rfl⟩)
            | (go_at_call 20; (with_reducible refine (part_11 v p11 hv H11.out _).mono ?_); rintro e w' ⟨rfl, rfl⟩)
            | (go_at_call 20; (with_reducible refine (part_6 v p6 hv H6.out _).mono ?_); rintro e w' ⟨rfl, rfl⟩)
            | (go_at_call 20; (with_reducible refine (part_0 v p0 hv H0.out _).mono ?_); rintro e w' ⟨rfl, rfl⟩)
            | (go_at_call 66; (with_reducible refine (isOf_n [68] 106 106 (by decide) (by decide) false (by decide) _).mono ?_); rintro e w' ⟨rfl, rfl⟩)
            | (go_at_call 66; (with_reducible refine (isOf_n [68] 83 83 (by decide) (by decide) false (by decide) _).mono ?_); rintro e w' ⟨rfl, rfl⟩)
            | (go_at_call 66; (with_reducible refine (isOf_n [68] 84 84 (by decide) (by decide) false (by decide) _).mono ?_); rintro e w' ⟨rfl, rfl⟩)
            | (go_at_call 66; (with_reducible refine (isOf_n [68] 105 105 (by decide) (by decide) false (by decide) _).mono ?_); rintro e w' ⟨rfl, rfl⟩)
            | (go_at_call 66; (with_reducible refine (isOf_n [68] 68 68 (by decide) (by decide) true (by decide) _).mono ?_); rintro e w' ⟨rfl, rfl⟩)
            | (go_at_call 66; (with_reducible refine (isOf_n [68] 97 97 (by decide) (by decide) false (by decide) _).mono ?_); rintro e w' ⟨rfl, rfl⟩))
          go_ret
          refine ⟨?_, HK.out.drewN _⟩
          rw [HR.out]
          simp [C0.out, C1.out, C2.out, C3.out, eqD]
      · have t2 := neT c2
        have C2 := Lib.hid c2
        clear c2
        go_enter Tryz.func65, Tryz.ntmps65
        go_wp2_with fail
        go_quiet ((go_at_call 20; with_reducible exact part_26 v p26 hv H26.out _ _))
        go_wp2_with (first
          | (go_at_call 20; (with_reducible refine (part_21 v p21 hv H21.out _).mono ?_); rintro e w' ⟨rfl, rfl⟩)
          | (go_at_call 20; (with_reducible refine (part_16 v p16 hv H16.out _).mono ?_); rintro e w' ⟨rfl, rfl⟩)
          | (go_at_call 20; (with_reducible refine (part_11 v p11 hv H11.out _).mono ?_); rintro e w' ⟨rfl, rfl⟩)
          | (go_at_call 20; (with_reducible refine (part_6 v p6 hv H6.out _).mono ?_); rintro e w' ⟨rfl, rfl⟩)
          | (go_at_call 20; (with_reducible refine (part_0 v p0 hv H0.out _).mono ?_); rintro e w' ⟨rfl, rfl⟩)
          | (go_at_call 66; (with_reducible refine (isOf_n [68] 106 106 (by decide) (by decide) false (by decide) _).mono ?_); rintro e w' ⟨rfl, rfl⟩)
          | (go_at_call 66; (with_reducible refine (isOf_n [68] 83 83 (by decide) (by decide) false (by decide) _).mono ?_); rintro e w' ⟨rfl, rfl⟩)
          | (go_at_call 66; (with_reducible refine (isOf_n [68] 84 84 (by decide) (by decide) false (by decide) _).mono ?_); rintro e w' ⟨rfl, rfl⟩)
          | (go_at_call 66; (with_reducible refine (isOf_n [68] 105 105 (by decide) (by decide) false (by decide) _).mono ?_); rintro e w' ⟨rfl, rfl⟩)
          | (go_at_call 66; (with_reducible refine (isOf_n [68] 68 68 (by decide) (by decide) true (by decide) _).mono ?_); rintro e w' ⟨rfl, rfl⟩)
          | (go_at_call 66; (with_reducible refine (isOf_n [68] 97 97 (by decide) (by decide) false (by decide) _).mono ?_); rintro e w' ⟨rfl, rfl⟩))
        go_ret
        refine ⟨?_, HK.out.drewN _⟩
        rw [HR.out]
        simp [C0.out, C1.out, C2.out, eqD]
    · have t1 := neT c1
      have C1 := Lib.hid c1
      clear c1
      go_enter Tryz.func65, Tryz.ntmps65
      go_wp2_with fail
      go_quiet ((go_at_call 20; with_reducible exact part_26 v p26 hv H26.out _ _))
      go_wp2_with (first
        | (go_at_call 20; (with_reducible refine (part_21 v p21 hv H21.out _).mono ?_); rintro e w' ⟨rfl, rfl⟩)
        | (go_at_call 20; (with_reducible refine (part_16 v p16 hv H16.out _).mono ?_); rintro e w' ⟨rfl, rfl⟩)
        | (go_at_call 20; (with_reducible refine (part_11 v p11 hv H11.out _).mono ?_); rintro e w' ⟨rfl, rfl⟩)
        | (go_at_call 20; (with_reducible refine (part_6 v p6 hv H6.out _).mono ?_); rintro e w' ⟨rfl, rfl⟩)
        | (go_at_call 20; (with_reducible refine (part_0 v p0 hv H0.out _).mono ?_); rintro e w' ⟨rfl, rfl⟩)
        | (go_at_call 66; (with_reducible refine (isOf_n [68] 106 106 (by decide) (by decide) false (by decide) _).mono ?_); rintro e w' ⟨rfl, rfl⟩)
        | (go_at_call 66; (with_reducible refine (isOf_n [68] 83 83 (by decide) (by decide) false (by decide) _).mono ?_); rintro e w' ⟨rfl, rfl⟩)
        | (go_at_call 66; (with_reducible refine (isOf_n [68] 84 84 (by decide) (by decide) false (by decide) _).mono ?_); rintro e w' ⟨rfl, rfl⟩)
        | (go_at_call 66; (with_reducible refine (isOf_n [68] 105 105 (by decide) (by decide) false (by decide) _).mono ?_); rintro e w' ⟨rfl, rfl⟩)
        | (go_at_call 66; (with_reducible refine (isOf_n [68] 68 68 (by decide) (by decide) true (by decide) _).mono ?_); rintro e w' ⟨rfl, rfl⟩)
        | (go_at_call 66; (with_reducible refine (isOf_n [68] 97 97 (by decide) (by decide) false (by decide) _).mono ?_); rintro e w' ⟨rfl, rfl⟩))
      go_ret
      refine ⟨?_, HK.out.drewN _⟩
      rw [HR.out]
      simp [C0.out, C1.out, eqD]
  · have t0 := neT c0
    have C0 := Lib.hid c0
    clear c0
    go_enter Tryz.func65, Tryz.ntmps65
    go_wp2_with fail
    go_quiet ((go_at_call 20; with_reducible exact part_26 v p26 hv H26.out _ _))
    go_wp2_with (first
      | (go_at_call 20; (with_reducible refine (part_21 v p21 hv H21.out _).mono ?_); rintro e w' ⟨rfl, rfl⟩)
      | (go_at_call 20; (with_reducible refine (part_16 v p16 hv H16.out _).mono ?_); rintro e w' ⟨rfl, rfl⟩)
      | (go_at_call 20; (with_reducible refine (part_11 v p11 hv H11.out _).mono ?_); rintro e w' ⟨rfl, rfl⟩)
      | (go_at_call 20; (with_reducible refine (part_6 v p6 hv H6.out _).mono ?_); rintro e w' ⟨rfl, rfl⟩)
      | (go_at_call 20; (with_reducible refine (part_0 v p0 hv H0.out _).mono ?_); rintro e w' ⟨rfl, rfl⟩)
      | (go_at_call 66; (with_reducible refine (isOf_n [68] 106 106 (by decide) (by decide) false (by decide) _).mono ?_); rintro e w' ⟨rfl, rfl⟩)
      | (go_at_call 66; (with_reducible refine (isOf_n [68] 83 83 (by decide) (by decide) false (by decide) _).mono ?_); rintro e w' ⟨rfl, rfl⟩)
      | (go_at_call 66; (with_reducible refine (isOf_n [68] 84 84 (by decide) (by decide) false (by decide) _).mono ?_); rintro e w' ⟨rfl, rfl⟩)
      | (go_at_call 66; (with_reducible refine (isOf_n [68] 105 105 (by decide) (by decide) false (by decide) _).mono ?_); rintro e w' ⟨rfl, rfl⟩)
      | (go_at_call 66; (with_reducible refine (isOf_n [68] 68 68 (by decide) (by decide) true (by decide) _).mono ?_); rintro e w' ⟨rfl, rfl⟩)
      | (go_at_call 66; (with_reducible refine (isOf_n [68] 97 97 (by decide) (by decide) false (by decide) _).mono ?_); rintro e w' ⟨rfl, rfl⟩))
    go_ret
    refine ⟨?_, HK.out.drewN _⟩
    rw [HR.out]
    simp [C0.out, eqD]
set_option maxRecDepth 100000 in
set_option maxHeartbeats 4000000 in
theorem matches_6 (v : Int) (hv : 0 ≤ v ∧ v < 4294967296) (nm od : List UInt8) (mi : Nat) (kk : Nat) (ks : Value) (p26 p21 p16 p11 p6 p0 : Int) (H26 : Hid (Cd.part v 26 6 = p26)) (H21 : Hid (Cd.part v 21 5 = p21)) (H16 : Hid (Cd.part v 16 5 = p16)) (H11 : Hid (Cd.part v 11 5 = p11)) (H6 : Hid (Cd.part v 6 5 = p6)) (H0 : Hid (Cd.part v 0 6 = p0)) (w : World) :
    Calls Tryz.prog 65 #[.int .u32 v, .agg #[.string ⟨nm.toArray⟩, .int .i64 0, .int .i64 mi, .string ⟨([83, 84] : List UInt8).toArray⟩, .string ⟨od.toArray⟩, ks]] w fun e w' => e = .returned (.bool (rowB p26 p21 p16 p11 p6 p0 ⟨nm, 0, mi, [83, 84], od, kk⟩)) ∧ Keeps (fun _ => False) w w' := by
  have HB := Lib.hid (blk_alloc_new w (.cells #[.string ⟨nm.toArray⟩, .int .i64 0, .int .i64 mi, .string ⟨([83, 84] : List UInt8).toArray⟩, .string ⟨od.toArray⟩, ks] 109 (0, 0)))
  have HK := Lib.hid ((Keeps.refl (fun _ => False) w).alloc (.cells #[.string ⟨nm.toArray⟩, .int .i64 0, .int .i64 mi, .string ⟨([83, 84] : List UInt8).toArray⟩, .string ⟨od.toArray⟩, ks] 109 (0, 0)))
  have HR : Hid (rowB p26 p21 p16 p11 p6 p0 ⟨nm, 0, mi, [83, 84], od, kk⟩ = (decide (p26 = 0) && decide (p11 = 0) && decide (p6 = 0) && decide (p0 = (mi : Int)))) := Lib.hid (by
    have f106 : Cd.has [83, 84] 106 = false := by decide
    have f83 : Cd.has [83, 84] 83 = true := by decide
    have f84 : Cd.has [83, 84] 84 = true := by decide
    have f105 : Cd.has [83, 84] 105 = false := by decide
    have f68 : Cd.has [83, 84] 68 = false := by decide
    have f97 : Cd.has [83, 84] 97 = false := by decide
    have em : Cd.mid ⟨nm, 0, mi, [83, 84], od, kk⟩ = 0 := rfl
    have el : Cd.low ⟨nm, 0, mi, [83, 84], od, kk⟩ = (mi : Int) := rfl
    unfold rowB
    rw [em, el]
    simp only [f106, f83, f84, f105, f68, f97, Bool.true_or, Bool.false_or, Bool.or_true, Bool.and_true, Bool.true_and, Bool.and_assoc]
    all_goals first | rfl | simp)
  by_cases c0 : p26 = 0
  · have t0 := neF c0
    have C0 := Lib.hid c0
    clear c0
    by_cases c1 : p11 = 0
    · have t1 := neF c1
      have C1 := Lib.hid c1
      clear c1
      by_cases c2 : p6 = 0
      · have t2 := neF c2
        have C2 := Lib.hid c2
        clear c2
        go_enter Tryz.func65, Tryz.ntmps65
        go_wp2_with fail
        go_quiet ((go_at_call 20; with_reducible exact part_26 v p26 hv H26.out _ _))
        go_wp2_with (first
          | (go_at_call 20; (with_reducible refine (part_21 v p21 hv H21.out _).mono ?_); rintro e w' ⟨rfl, rfl⟩)
          | (go_at_call 20; (with_reducible refine (part_16 v p16 hv H16.out _).mono ?_); rintro e w' ⟨rfl, rfl⟩)
          | (go_at_call 20; (with_reducible refine (part_11 v p11 hv H11.out _).mono ?_); rintro e w' ⟨rfl, rfl⟩)
          | (go_at_call 20; (with_reducible refine (part_6 v p6 hv H6.out _).mono ?_); rintro e w' ⟨rfl, rfl⟩)
          | (go_at_call 20; (with_reducible refine (part_0 v p0 hv H0.out _).mono ?_); rintro e w' ⟨rfl, rfl⟩)
          | (go_at_call 66; (with_reducible refine (isOf_n [83, 84] 106 106 (by decide) (by decide) false (by decide) _).mono ?_); rintro e w' ⟨rfl, rfl⟩)
          | (go_at_call 66; (with_reducible refine (isOf_n [83, 84] 83 83 (by decide) (by decide) true (by decide) _).mono ?_); rintro e w' ⟨rfl, rfl⟩)
          | (go_at_call 66; (with_reducible refine (isOf_n [83, 84] 84 84 (by decide) (by decide) true (by decide) _).mono ?_); rintro e w' ⟨rfl, rfl⟩)
          | (go_at_call 66; (with_reducible refine (isOf_n [83, 84] 105 105 (by decide) (by decide) false (by decide) _).mono ?_); rintro e w' ⟨rfl, rfl⟩)
          | (go_at_call 66; (with_reducible refine (isOf_n [83, 84] 68 68 (by decide) (by decide) false (by decide) _).mono ?_); rintro e w' ⟨rfl, rfl⟩)
          | (go_at_call 66; (with_reducible refine (isOf_n [83, 84] 97 97 (by decide) (by decide) false (by decide) _).mono ?_); rintro e w' ⟨rfl, rfl⟩))
        go_ret
        refine ⟨?_, HK.out.drewN _⟩
        rw [HR.out]
        simp [C0.out, C1.out, C2.out, eqD]
      · have t2 := neT c2
        have C2 := Lib.hid c2
        clear c2
        go_enter Tryz.func65, Tryz.ntmps65
        go_wp2_with fail
        go_quiet ((go_at_call 20; with_reducible exact part_26 v p26 hv H26.out _ _))
        go_wp2_with (first
          | (go_at_call 20; (with_reducible refine (part_21 v p21 hv H21.out _).mono ?_); rintro e w' ⟨rfl, rfl⟩)
          | (go_at_call 20; (with_reducible refine (part_16 v p16 hv H16.out _).mono ?_); rintro e w' ⟨rfl, rfl⟩)
          | (go_at_call 20; (with_reducible refine (part_11 v p11 hv H11.out _).mono ?_); rintro e w' ⟨rfl, rfl⟩)
          | (go_at_call 20; (with_reducible refine (part_6 v p6 hv H6.out _).mono ?_); rintro e w' ⟨rfl, rfl⟩)
          | (go_at_call 20; (with_reducible refine (part_0 v p0 hv H0.out _).mono ?_); rintro e w' ⟨rfl, rfl⟩)
          | (go_at_call 66; (with_reducible refine (isOf_n [83, 84] 106 106 (by decide) (by decide) false (by decide) _).mono ?_); rintro e w' ⟨rfl, rfl⟩)
          | (go_at_call 66; (with_reducible refine (isOf_n [83, 84] 83 83 (by decide) (by decide) true (by decide) _).mono ?_); rintro e w' ⟨rfl, rfl⟩)
          | (go_at_call 66; (with_reducible refine (isOf_n [83, 84] 84 84 (by decide) (by decide) true (by decide) _).mono ?_); rintro e w' ⟨rfl, rfl⟩)
          | (go_at_call 66; (with_reducible refine (isOf_n [83, 84] 105 105 (by decide) (by decide) false (by decide) _).mono ?_); rintro e w' ⟨rfl, rfl⟩)
          | (go_at_call 66; (with_reducible refine (isOf_n [83, 84] 68 68 (by decide) (by decide) false (by decide) _).mono ?_); rintro e w' ⟨rfl, rfl⟩)
          | (go_at_call 66; (with_reducible refine (isOf_n [83, 84] 97 97 (by decide) (by decide) false (by decide) _).mono ?_); rintro e w' ⟨rfl, rfl⟩))
        go_ret
        refine ⟨?_, HK.out.drewN _⟩
        rw [HR.out]
        simp [C0.out, C1.out, C2.out, eqD]
    · have t1 := neT c1
      have C1 := Lib.hid c1
      clear c1
      go_enter Tryz.func65, Tryz.ntmps65
      go_wp2_with fail
      go_quiet ((go_at_call 20; with_reducible exact part_26 v p26 hv H26.out _ _))
      go_wp2_with (first
        | (go_at_call 20; (with_reducible refine (part_21 v p21 hv H21.out _).mono ?_); rintro e w' ⟨rfl, rfl⟩)
        | (go_at_call 20; (with_reducible refine (part_16 v p16 hv H16.out _).mono ?_); rintro e w' ⟨rfl, rfl⟩)
        | (go_at_call 20; (with_reducible refine (part_11 v p11 hv H11.out _).mono ?_); rintro e w' ⟨rfl, rfl⟩)
        | (go_at_call 20; (with_reducible refine (part_6 v p6 hv H6.out _).mono ?_); rintro e w' ⟨rfl, rfl⟩)
        | (go_at_call 20; (with_reducible refine (part_0 v p0 hv H0.out _).mono ?_); rintro e w' ⟨rfl, rfl⟩)
        | (go_at_call 66; (with_reducible refine (isOf_n [83, 84] 106 106 (by decide) (by decide) false (by decide) _).mono ?_); rintro e w' ⟨rfl, rfl⟩)
        | (go_at_call 66; (with_reducible refine (isOf_n [83, 84] 83 83 (by decide) (by decide) true (by decide) _).mono ?_); rintro e w' ⟨rfl, rfl⟩)
        | (go_at_call 66; (with_reducible refine (isOf_n [83, 84] 84 84 (by decide) (by decide) true (by decide) _).mono ?_); rintro e w' ⟨rfl, rfl⟩)
        | (go_at_call 66; (with_reducible refine (isOf_n [83, 84] 105 105 (by decide) (by decide) false (by decide) _).mono ?_); rintro e w' ⟨rfl, rfl⟩)
        | (go_at_call 66; (with_reducible refine (isOf_n [83, 84] 68 68 (by decide) (by decide) false (by decide) _).mono ?_); rintro e w' ⟨rfl, rfl⟩)
        | (go_at_call 66; (with_reducible refine (isOf_n [83, 84] 97 97 (by decide) (by decide) false (by decide) _).mono ?_); rintro e w' ⟨rfl, rfl⟩))
      go_ret
      refine ⟨?_, HK.out.drewN _⟩
      rw [HR.out]
      simp [C0.out, C1.out, eqD]
  · have t0 := neT c0
    have C0 := Lib.hid c0
    clear c0
    go_enter Tryz.func65, Tryz.ntmps65
    go_wp2_with fail
    go_quiet ((go_at_call 20; with_reducible exact part_26 v p26 hv H26.out _ _))
    go_wp2_with (first
      | (go_at_call 20; (with_reducible refine (part_21 v p21 hv H21.out _).mono ?_); rintro e w' ⟨rfl, rfl⟩)
      | (go_at_call 20; (with_reducible refine (part_16 v p16 hv H16.out _).mono ?_); rintro e w' ⟨rfl, rfl⟩)
      | (go_at_call 20; (with_reducible refine (part_11 v p11 hv H11.out _).mono ?_); rintro e w' ⟨rfl, rfl⟩)
      | (go_at_call 20; (with_reducible refine (part_6 v p6 hv H6.out _).mono ?_); rintro e w' ⟨rfl, rfl⟩)
      | (go_at_call 20; (with_reducible refine (part_0 v p0 hv H0.out _).mono ?_); rintro e w' ⟨rfl, rfl⟩)
      | (go_at_call 66; (with_reducible refine (isOf_n [83, 84] 106 106 (by decide) (by decide) false (by decide) _).mono ?_); rintro e w' ⟨rfl, rfl⟩)
      | (go_at_call 66; (with_reducible refine (isOf_n [83, 84] 83 83 (by decide) (by decide) true (by decide) _).mono ?_); rintro e w' ⟨rfl, rfl⟩)
      | (go_at_call 66; (with_reducible refine (isOf_n [83, 84] 84 84 (by decide) (by decide) true (by decide) _).mono ?_); rintro e w' ⟨rfl, rfl⟩)
      | (go_at_call 66; (with_reducible refine (isOf_n [83, 84] 105 105 (by decide) (by decide) false (by decide) _).mono ?_); rintro e w' ⟨rfl, rfl⟩)
      | (go_at_call 66; (with_reducible refine (isOf_n [83, 84] 68 68 (by decide) (by decide) false (by decide) _).mono ?_); rintro e w' ⟨rfl, rfl⟩)
      | (go_at_call 66; (with_reducible refine (isOf_n [83, 84] 97 97 (by decide) (by decide) false (by decide) _).mono ?_); rintro e w' ⟨rfl, rfl⟩))
    go_ret
    refine ⟨?_, HK.out.drewN _⟩
    rw [HR.out]
    simp [C0.out, eqD]
set_option maxRecDepth 100000 in
set_option maxHeartbeats 4000000 in
theorem matches_7 (v : Int) (hv : 0 ≤ v ∧ v < 4294967296) (nm od : List UInt8) (ma mi : Nat) (h0 : ¬ ma = 0) (h16 : ¬ ma = 16) (kk : Nat) (ks : Value) (p26 p21 p16 p11 p6 p0 : Int) (H26 : Hid (Cd.part v 26 6 = p26)) (H21 : Hid (Cd.part v 21 5 = p21)) (H16 : Hid (Cd.part v 16 5 = p16)) (H11 : Hid (Cd.part v 11 5 = p11)) (H6 : Hid (Cd.part v 6 5 = p6)) (H0 : Hid (Cd.part v 0 6 = p0)) (w : World) :
    Calls Tryz.prog 65 #[.int .u32 v, .agg #[.string ⟨nm.toArray⟩, .int .i64 ma, .int .i64 mi, .string ⟨([106] : List UInt8).toArray⟩, .string ⟨od.toArray⟩, ks]] w fun e w' => e = .returned (.bool (rowB p26 p21 p16 p11 p6 p0 ⟨nm, ma, mi, [106], od, kk⟩)) ∧ Keeps (fun _ => False) w w' := by
  have HB := Lib.hid (blk_alloc_new w (.cells #[.string ⟨nm.toArray⟩, .int .i64 ma, .int .i64 mi, .string ⟨([106] : List UInt8).toArray⟩, .string ⟨od.toArray⟩, ks] 109 (0, 0)))
  have HK := Lib.hid ((Keeps.refl (fun _ => False) w).alloc (.cells #[.string ⟨nm.toArray⟩, .int .i64 ma, .int .i64 mi, .string ⟨([106] : List UInt8).toArray⟩, .string ⟨od.toArray⟩, ks] 109 (0, 0)))
  have HR : Hid (rowB p26 p21 p16 p11 p6 p0 ⟨nm, ma, mi, [106], od, kk⟩ = (decide (p26 = ((ma : Nat) : Int)))) := Lib.hid (by
    have f106 : Cd.has [106] 106 = true := by decide
    have f83 : Cd.has [106] 83 = false := by decide
    have f84 : Cd.has [106] 84 = false := by decide
    have f105 : Cd.has [106] 105 = false := by decide
    have f68 : Cd.has [106] 68 = false := by decide
    have f97 : Cd.has [106] 97 = false := by decide
    have em : Cd.mid ⟨nm, ma, mi, [106], od, kk⟩ = 0 := (if_neg h16)
    have el : Cd.low ⟨nm, ma, mi, [106], od, kk⟩ = 0 := (by unfold Cd.low; rw [if_neg h0, if_neg (fun h => h16 h.1)])
    unfold rowB
    rw [em, el]
    simp only [f106, f83, f84, f105, f68, f97, Bool.true_or, Bool.false_or, Bool.or_true, Bool.and_true, Bool.true_and, Bool.and_assoc]
    all_goals first | rfl | simp)
  have tz := eqF (show ¬ (ma : Int) = 0 by omega)
  have tm := eqF (show ¬ (ma : Int) = 16 by omega)
  clear h0 h16
  by_cases c0 : p26 = ((ma : Nat) : Int)
  · have t0 := neF c0
    have C0 := Lib.hid c0
    clear c0
    go_enter Tryz.func65, Tryz.ntmps65
    go_wp2_with fail
    go_quiet ((go_at_call 20; with_reducible exact part_26 v p26 hv H26.out _ _))
    go_wp2_with (first
      | (go_at_call 20; (with_reducible refine (part_21 v p21 hv H21.out _).mono ?_); rintro e w' ⟨rfl, rfl⟩)
      | (go_at_call 20; (with_reducible refine (part_16 v p16 hv H16.out _).mono ?_); rintro e w' ⟨rfl, rfl⟩)
      | (go_at_call 20; (with_reducible refine (part_11 v p11 hv H11.out _).mono ?_); rintro e w' ⟨rfl, rfl⟩)
      | (go_at_call 20; (with_reducible refine (part_6 v p6 hv H6.out _).mono ?_); rintro e w' ⟨rfl, rfl⟩)
      | (go_at_call 20; (with_reducible refine (part_0 v p0 hv H0.out _).mono ?_); rintro e w' ⟨rfl, rfl⟩)
      | (go_at_call 66; (with_reducible refine (isOf_n [106] 106 106 (by decide) (by decide) true (by decide) _).mono ?_); rintro e w' ⟨rfl, rfl⟩)
      | (go_at_call 66; (with_reducible refine (isOf_n [106] 83 83 (by decide) (by decide) false (by decide) _).mono ?_); rintro e w' ⟨rfl, rfl⟩)
      | (go_at_call 66; (with_reducible refine (isOf_n [106] 84 84 (by decide) (by decide) false (by decide) _).mono ?_); rintro e w' ⟨rfl, rfl⟩)
      | (go_at_call 66; (with_reducible refine (isOf_n [106] 105 105 (by decide) (by decide) false (by decide) _).mono ?_); rintro e w' ⟨rfl, rfl⟩)
      | (go_at_call 66; (with_reducible refine (isOf_n [106] 68 68 (by decide) (by decide) false (by decide) _).mono ?_); rintro e w' ⟨rfl, rfl⟩)
      | (go_at_call 66; (with_reducible refine (isOf_n [106] 97 97 (by decide) (by decide) false (by decide) _).mono ?_); rintro e w' ⟨rfl, rfl⟩))
    go_ret
    refine ⟨?_, HK.out.drewN _⟩
    rw [HR.out]
    simp [C0.out, eqD]
  · have t0 := neT c0
    have C0 := Lib.hid c0
    clear c0
    go_enter Tryz.func65, Tryz.ntmps65
    go_wp2_with fail
    go_quiet ((go_at_call 20; with_reducible exact part_26 v p26 hv H26.out _ _))
    go_wp2_with (first
      | (go_at_call 20; (with_reducible refine (part_21 v p21 hv H21.out _).mono ?_); rintro e w' ⟨rfl, rfl⟩)
      | (go_at_call 20; (with_reducible refine (part_16 v p16 hv H16.out _).mono ?_); rintro e w' ⟨rfl, rfl⟩)
      | (go_at_call 20; (with_reducible refine (part_11 v p11 hv H11.out _).mono ?_); rintro e w' ⟨rfl, rfl⟩)
      | (go_at_call 20; (with_reducible refine (part_6 v p6 hv H6.out _).mono ?_); rintro e w' ⟨rfl, rfl⟩)
      | (go_at_call 20; (with_reducible refine (part_0 v p0 hv H0.out _).mono ?_); rintro e w' ⟨rfl, rfl⟩)
      | (go_at_call 66; (with_reducible refine (isOf_n [106] 106 106 (by decide) (by decide) true (by decide) _).mono ?_); rintro e w' ⟨rfl, rfl⟩)
      | (go_at_call 66; (with_reducible refine (isOf_n [106] 83 83 (by decide) (by decide) false (by decide) _).mono ?_); rintro e w' ⟨rfl, rfl⟩)
      | (go_at_call 66; (with_reducible refine (isOf_n [106] 84 84 (by decide) (by decide) false (by decide) _).mono ?_); rintro e w' ⟨rfl, rfl⟩)
      | (go_at_call 66; (with_reducible refine (isOf_n [106] 105 105 (by decide) (by decide) false (by decide) _).mono ?_); rintro e w' ⟨rfl, rfl⟩)
      | (go_at_call 66; (with_reducible refine (isOf_n [106] 68 68 (by decide) (by decide) false (by decide) _).mono ?_); rintro e w' ⟨rfl, rfl⟩)
      | (go_at_call 66; (with_reducible refine (isOf_n [106] 97 97 (by decide) (by decide) false (by decide) _).mono ?_); rintro e w' ⟨rfl, rfl⟩))
    go_ret
    refine ⟨?_, HK.out.drewN _⟩
    rw [HR.out]
    simp [C0.out, eqD]
set_option maxRecDepth 100000 in
set_option maxHeartbeats 4000000 in
theorem matches_8 (v : Int) (hv : 0 ≤ v ∧ v < 4294967296) (nm od : List UInt8) (ma mi : Nat) (h0 : ¬ ma = 0) (h16 : ¬ ma = 16) (kk : Nat) (ks : Value) (p26 p21 p16 p11 p6 p0 : Int) (H26 : Hid (Cd.part v 26 6 = p26)) (H21 : Hid (Cd.part v 21 5 = p21)) (H16 : Hid (Cd.part v 16 5 = p16)) (H11 : Hid (Cd.part v 11 5 = p11)) (H6 : Hid (Cd.part v 6 5 = p6)) (H0 : Hid (Cd.part v 0 6 = p0)) (w : World) :
    Calls Tryz.prog 65 #[.int .u32 v, .agg #[.string ⟨nm.toArray⟩, .int .i64 ma, .int .i64 mi, .string ⟨([83, 84, 105] : List UInt8).toArray⟩, .string ⟨od.toArray⟩, ks]] w fun e w' => e = .returned (.bool (rowB p26 p21 p16 p11 p6 p0 ⟨nm, ma, mi, [83, 84, 105], od, kk⟩)) ∧ Keeps (fun _ => False) w w' := by
  have HB := Lib.hid (blk_alloc_new w (.cells #[.string ⟨nm.toArray⟩, .int .i64 ma, .int .i64 mi, .string ⟨([83, 84, 105] : List UInt8).toArray⟩, .string ⟨od.toArray⟩, ks] 109 (0, 0)))
  have HK := Lib.hid ((Keeps.refl (fun _ => False) w).alloc (.cells #[.string ⟨nm.toArray⟩, .int .i64 ma, .int .i64 mi, .string ⟨([83, 84, 105] : List UInt8).toArray⟩, .string ⟨od.toArray⟩, ks] 109 (0, 0)))
  have HR : Hid (rowB p26 p21 p16 p11 p6 p0 ⟨nm, ma, mi, [83, 84, 105], od, kk⟩ = (decide (p26 = ((ma : Nat) : Int)))) := Lib.hid (by
    have f106 : Cd.has [83, 84, 105] 106 = false := by decide
    have f83 : Cd.has [83, 84, 105] 83 = true := by decide
    have f84 : Cd.has [83, 84, 105] 84 = true := by decide
    have f105 : Cd.has [83, 84, 105] 105 = true := by decide
    have f68 : Cd.has [83, 84, 105] 68 = false := by decide
    have f97 : Cd.has [83, 84, 105] 97 = false := by decide
    have em : Cd.mid ⟨nm, ma, mi, [83, 84, 105], od, kk⟩ = 0 := (if_neg h16)
    have el : Cd.low ⟨nm, ma, mi, [83, 84, 105], od, kk⟩ = 0 := (by unfold Cd.low; rw [if_neg h0, if_neg (fun h => h16 h.1)])
    unfold rowB
    rw [em, el]
    simp only [f106, f83, f84, f105, f68, f97, Bool.true_or, Bool.false_or, Bool.or_true, Bool.and_true, Bool.true_and, Bool.and_assoc]
    all_goals first | rfl | simp)
  have tz := eqF (show ¬ (ma : Int) = 0 by omega)
  have tm := eqF (show ¬ (ma : Int) = 16 by omega)
  clear h0 h16
  by_cases c0 : p26 = ((ma : Nat) : Int)
  · have t0 := neF c0
    have C0 := Lib.hid c0
    clear c0
    go_enter Tryz.func65, Tryz.ntmps65
    go_wp2_with fail
    go_quiet ((go_at_call 20; with_reducible exact part_26 v p26 hv H26.out _ _))
    go_wp2_with (first
      | (go_at_call 20; (with_reducible refine (part_21 v p21 hv H21.out _).mono ?_); rintro e w' ⟨rfl, rfl⟩)
      | (go_at_call 20; (with_reducible refine (part_16 v p16 hv H16.out _).mono ?_); rintro e w' ⟨rfl, rfl⟩)
      | (go_at_call 20; (with_reducible refine (part_11 v p11 hv H11.out _).mono ?_); rintro e w' ⟨rfl, rfl⟩)
      | (go_at_call 20; (with_reducible refine (part_6 v p6 hv H6.out _).mono ?_); rintro e w' ⟨rfl, rfl⟩)
      | (go_at_call 20; (with_reducible refine (part_0 v p0 hv H0.out _).mono ?_); rintro e w' ⟨rfl, rfl⟩)
      | (go_at_call 66; (with_reducible refine (isOf_n [83, 84, 105] 106 106 (by decide) (by decide) false (by decide) _).mono ?_); rintro e w' ⟨rfl, rfl⟩)
      | (go_at_call 66; (with_reducible refine (isOf_n [83, 84, 105] 83 83 (by decide) (by decide) true (by decide) _).mono ?_); rintro e w' ⟨rfl, rfl⟩)
      | (go_at_call 66; (with_reducible refine (isOf_n [83, 84, 105] 84 84 (by decide) (by decide) true (by decide) _).mono ?_); rintro e w' ⟨rfl, rfl⟩)
      | (go_at_call 66; (with_reducible refine (isOf_n [83, 84, 105] 105 105 (by decide) (by decide) true (by decide) _).mono ?_); rintro e w' ⟨rfl, rfl⟩)
      | (go_at_call 66; (with_reducible refine (isOf_n [83, 84, 105] 68 68 (by decide) (by decide) false (by decide) _).mono ?_); rintro e w' ⟨rfl, rfl⟩)
      | (go_at_call 66; (with_reducible refine (isOf_n [83, 84, 105] 97 97 (by decide) (by decide) false (by decide) _).mono ?_); rintro e w' ⟨rfl, rfl⟩))
    go_ret
    refine ⟨?_, HK.out.drewN _⟩
    rw [HR.out]
    simp [C0.out, eqD]
  · have t0 := neT c0
    have C0 := Lib.hid c0
    clear c0
    go_enter Tryz.func65, Tryz.ntmps65
    go_wp2_with fail
    go_quiet ((go_at_call 20; with_reducible exact part_26 v p26 hv H26.out _ _))
    go_wp2_with (first
      | (go_at_call 20; (with_reducible refine (part_21 v p21 hv H21.out _).mono ?_); rintro e w' ⟨rfl, rfl⟩)
      | (go_at_call 20; (with_reducible refine (part_16 v p16 hv H16.out _).mono ?_); rintro e w' ⟨rfl, rfl⟩)
      | (go_at_call 20; (with_reducible refine (part_11 v p11 hv H11.out _).mono ?_); rintro e w' ⟨rfl, rfl⟩)
      | (go_at_call 20; (with_reducible refine (part_6 v p6 hv H6.out _).mono ?_); rintro e w' ⟨rfl, rfl⟩)
      | (go_at_call 20; (with_reducible refine (part_0 v p0 hv H0.out _).mono ?_); rintro e w' ⟨rfl, rfl⟩)
      | (go_at_call 66; (with_reducible refine (isOf_n [83, 84, 105] 106 106 (by decide) (by decide) false (by decide) _).mono ?_); rintro e w' ⟨rfl, rfl⟩)
      | (go_at_call 66; (with_reducible refine (isOf_n [83, 84, 105] 83 83 (by decide) (by decide) true (by decide) _).mono ?_); rintro e w' ⟨rfl, rfl⟩)
      | (go_at_call 66; (with_reducible refine (isOf_n [83, 84, 105] 84 84 (by decide) (by decide) true (by decide) _).mono ?_); rintro e w' ⟨rfl, rfl⟩)
      | (go_at_call 66; (with_reducible refine (isOf_n [83, 84, 105] 105 105 (by decide) (by decide) true (by decide) _).mono ?_); rintro e w' ⟨rfl, rfl⟩)
      | (go_at_call 66; (with_reducible refine (isOf_n [83, 84, 105] 68 68 (by decide) (by decide) false (by decide) _).mono ?_); rintro e w' ⟨rfl, rfl⟩)
      | (go_at_call 66; (with_reducible refine (isOf_n [83, 84, 105] 97 97 (by decide) (by decide) false (by decide) _).mono ?_); rintro e w' ⟨rfl, rfl⟩))
    go_ret
    refine ⟨?_, HK.out.drewN _⟩
    rw [HR.out]
    simp [C0.out, eqD]
set_option maxRecDepth 100000 in
set_option maxHeartbeats 4000000 in
theorem matches_9 (v : Int) (hv : 0 ≤ v ∧ v < 4294967296) (nm od : List UInt8) (ma mi : Nat) (h0 : ¬ ma = 0) (h16 : ¬ ma = 16) (kk : Nat) (ks : Value) (p26 p21 p16 p11 p6 p0 : Int) (H26 : Hid (Cd.part v 26 6 = p26)) (H21 : Hid (Cd.part v 21 5 = p21)) (H16 : Hid (Cd.part v 16 5 = p16)) (H11 : Hid (Cd.part v 11 5 = p11)) (H6 : Hid (Cd.part v 6 5 = p6)) (H0 : Hid (Cd.part v 0 6 = p0)) (w : World) :
    Calls Tryz.prog 65 #[.int .u32 v, .agg #[.string ⟨nm.toArray⟩, .int .i64 ma, .int .i64 mi, .string ⟨([83, 105] : List UInt8).toArray⟩, .string ⟨od.toArray⟩, ks]] w fun e w' => e = .returned (.bool (rowB p26 p21 p16 p11 p6 p0 ⟨nm, ma, mi, [83, 105], od, kk⟩)) ∧ Keeps (fun _ => False) w w' := by
  have HB := Lib.hid (blk_alloc_new w (.cells #[.string ⟨nm.toArray⟩, .int .i64 ma, .int .i64 mi, .string ⟨([83, 105] : List UInt8).toArray⟩, .string ⟨od.toArray⟩, ks] 109 (0, 0)))
  have HK := Lib.hid ((Keeps.refl (fun _ => False) w).alloc (.cells #[.string ⟨nm.toArray⟩, .int .i64 ma, .int .i64 mi, .string ⟨([83, 105] : List UInt8).toArray⟩, .string ⟨od.toArray⟩, ks] 109 (0, 0)))
  have HR : Hid (rowB p26 p21 p16 p11 p6 p0 ⟨nm, ma, mi, [83, 105], od, kk⟩ = (decide (p26 = ((ma : Nat) : Int)) && decide (p16 = 0))) := Lib.hid (by
    have f106 : Cd.has [83, 105] 106 = false := by decide
    have f83 : Cd.has [83, 105] 83 = true := by decide
    have f84 : Cd.has [83, 105] 84 = false := by decide
    have f105 : Cd.has [83, 105] 105 = true := by decide
    have f68 : Cd.has [83, 105] 68 = false := by decide
    have f97 : Cd.has [83, 105] 97 = false := by decide
    have em : Cd.mid ⟨nm, ma, mi, [83, 105], od, kk⟩ = 0 := (if_neg h16)
    have el : Cd.low ⟨nm, ma, mi, [83, 105], od, kk⟩ = 0 := (by unfold Cd.low; rw [if_neg h0, if_neg (fun h => h16 h.1)])
    unfold rowB
    rw [em, el]
    simp only [f106, f83, f84, f105, f68, f97, Bool.true_or, Bool.false_or, Bool.or_true, Bool.and_true, Bool.true_and, Bool.and_assoc]
    all_goals first | rfl | simp)
  have tz := eqF (show ¬ (ma : Int) = 0 by omega)
  have tm := eqF (show ¬ (ma : Int) = 16 by omega)
  clear h0 h16
  by_cases c0 : p26 = ((ma : Nat) : Int)
  · have t0 := neF c0
    have C0 := Lib.hid c0
    clear c0
    by_cases c1 : p16 = 0
    · have t1 := neF c1
      have C1 := Lib.hid c1
      clear c1
      go_enter Tryz.func65, Tryz.ntmps65
      go_wp2_with fail
      go_quiet ((go_at_call 20; with_reducible exact part_26 v p26 hv H26.out _ _))
      go_wp2_with (first
        | (go_at_call 20; (with_reducible refine (part_21 v p21 hv H21.out _).mono ?_); rintro e w' ⟨rfl, rfl⟩)
        | (go_at_call 20; (with_reducible refine (part_16 v p16 hv H16.out _).mono ?_); rintro e w' ⟨rfl, rfl⟩)
        | (go_at_call 20; (with_reducible refine (part_11 v p11 hv H11.out _).mono ?_); rintro e w' ⟨rfl, rfl⟩)
        | (go_at_call 20; (with_reducible refine (part_6 v p6 hv H6.out _).mono ?_); rintro e w' ⟨rfl, rfl⟩)
        | (go_at_call 20; (with_reducible refine (part_0 v p0 hv H0.out _).mono ?_); rintro e w' ⟨rfl, rfl⟩)
        | (go_at_call 66; (with_reducible refine (isOf_n [83, 105] 106 106 (by decide) (by decide) false (by decide) _).mono ?_); rintro e w' ⟨rfl, rfl⟩)
        | (go_at_call 66; (with_reducible refine (isOf_n [83, 105] 83 83 (by decide) (by decide) true (by decide) _).mono ?_); rintro e w' ⟨rfl, rfl⟩)
        | (go_at_call 66; (with_reducible refine (isOf_n [83, 105] 84 84 (by decide) (by decide) false (by decide) _).mono ?_); rintro e w' ⟨rfl, rfl⟩)
        | (go_at_call 66; (with_reducible refine (isOf_n [83, 105] 105 105 (by decide) (by decide) true (by decide) _).mono ?_); rintro e w' ⟨rfl, rfl⟩)
        | (go_at_call 66; (with_reducible refine (isOf_n [83, 105] 68 68 (by decide) (by decide) false (by decide) _).mono ?_); rintro e w' ⟨rfl, rfl⟩)
        | (go_at_call 66; (with_reducible refine (isOf_n [83, 105] 97 97 (by decide) (by decide) false (by decide) _).mono ?_); rintro e w' ⟨rfl, rfl⟩))
      go_ret
      refine ⟨?_, HK.out.drewN _⟩
      rw [HR.out]
      simp [C0.out, C1.out, eqD]
    · have t1 := neT c1
      have C1 := Lib.hid c1
      clear c1
      go_enter Tryz.func65, Tryz.ntmps65
      go_wp2_with fail
      go_quiet ((go_at_call 20; with_reducible exact part_26 v p26 hv H26.out _ _))
      go_wp2_with (first
        | (go_at_call 20; (with_reducible refine (part_21 v p21 hv H21.out _).mono ?_); rintro e w' ⟨rfl, rfl⟩)
        | (go_at_call 20; (with_reducible refine (part_16 v p16 hv H16.out _).mono ?_); rintro e w' ⟨rfl, rfl⟩)
        | (go_at_call 20; (with_reducible refine (part_11 v p11 hv H11.out _).mono ?_); rintro e w' ⟨rfl, rfl⟩)
        | (go_at_call 20; (with_reducible refine (part_6 v p6 hv H6.out _).mono ?_); rintro e w' ⟨rfl, rfl⟩)
        | (go_at_call 20; (with_reducible refine (part_0 v p0 hv H0.out _).mono ?_); rintro e w' ⟨rfl, rfl⟩)
        | (go_at_call 66; (with_reducible refine (isOf_n [83, 105] 106 106 (by decide) (by decide) false (by decide) _).mono ?_); rintro e w' ⟨rfl, rfl⟩)
        | (go_at_call 66; (with_reducible refine (isOf_n [83, 105] 83 83 (by decide) (by decide) true (by decide) _).mono ?_); rintro e w' ⟨rfl, rfl⟩)
        | (go_at_call 66; (with_reducible refine (isOf_n [83, 105] 84 84 (by decide) (by decide) false (by decide) _).mono ?_); rintro e w' ⟨rfl, rfl⟩)
        | (go_at_call 66; (with_reducible refine (isOf_n [83, 105] 105 105 (by decide) (by decide) true (by decide) _).mono ?_); rintro e w' ⟨rfl, rfl⟩)
        | (go_at_call 66; (with_reducible refine (isOf_n [83, 105] 68 68 (by decide) (by decide) false (by decide) _).mono ?_); rintro e w' ⟨rfl, rfl⟩)
        | (go_at_call 66; (with_reducible refine (isOf_n [83, 105] 97 97 (by decide) (by decide) false (by decide) _).mono ?_); rintro e w' ⟨rfl, rfl⟩))
      go_ret
      refine ⟨?_, HK.out.drewN _⟩
      rw [HR.out]
      simp [C0.out, C1.out, eqD]
  · have t0 := neT c0
    have C0 := Lib.hid c0
    clear c0
    go_enter Tryz.func65, Tryz.ntmps65
    go_wp2_with fail
    go_quiet ((go_at_call 20; with_reducible exact part_26 v p26 hv H26.out _ _))
    go_wp2_with (first
      | (go_at_call 20; (with_reducible refine (part_21 v p21 hv H21.out _).mono ?_); rintro e w' ⟨rfl, rfl⟩)
      | (go_at_call 20; (with_reducible refine (part_16 v p16 hv H16.out _).mono ?_); rintro e w' ⟨rfl, rfl⟩)
      | (go_at_call 20; (with_reducible refine (part_11 v p11 hv H11.out _).mono ?_); rintro e w' ⟨rfl, rfl⟩)
      | (go_at_call 20; (with_reducible refine (part_6 v p6 hv H6.out _).mono ?_); rintro e w' ⟨rfl, rfl⟩)
      | (go_at_call 20; (with_reducible refine (part_0 v p0 hv H0.out _).mono ?_); rintro e w' ⟨rfl, rfl⟩)
      | (go_at_call 66; (with_reducible refine (isOf_n [83, 105] 106 106 (by decide) (by decide) false (by decide) _).mono ?_); rintro e w' ⟨rfl, rfl⟩)
      | (go_at_call 66; (with_reducible refine (isOf_n [83, 105] 83 83 (by decide) (by decide) true (by decide) _).mono ?_); rintro e w' ⟨rfl, rfl⟩)
      | (go_at_call 66; (with_reducible refine (isOf_n [83, 105] 84 84 (by decide) (by decide) false (by decide) _).mono ?_); rintro e w' ⟨rfl, rfl⟩)
      | (go_at_call 66; (with_reducible refine (isOf_n [83, 105] 105 105 (by decide) (by decide) true (by decide) _).mono ?_); rintro e w' ⟨rfl, rfl⟩)
      | (go_at_call 66; (with_reducible refine (isOf_n [83, 105] 68 68 (by decide) (by decide) false (by decide) _).mono ?_); rintro e w' ⟨rfl, rfl⟩)
      | (go_at_call 66; (with_reducible refine (isOf_n [83, 105] 97 97 (by decide) (by decide) false (by decide) _).mono ?_); rintro e w' ⟨rfl, rfl⟩))
    go_ret
    refine ⟨?_, HK.out.drewN _⟩
    rw [HR.out]
    simp [C0.out, eqD]
set_option maxRecDepth 100000 in
set_option maxHeartbeats 4000000 in
theorem matches_10 (v : Int) (hv : 0 ≤ v ∧ v < 4294967296) (nm od : List UInt8) (ma mi : Nat) (h0 : ¬ ma = 0) (h16 : ¬ ma = 16) (kk : Nat) (ks : Value) (p26 p21 p16 p11 p6 p0 : Int) (H26 : Hid (Cd.part v 26 6 = p26)) (H21 : Hid (Cd.part v 21 5 = p21)) (H16 : Hid (Cd.part v 16 5 = p16)) (H11 : Hid (Cd.part v 11 5 = p11)) (H6 : Hid (Cd.part v 6 5 = p6)) (H0 : Hid (Cd.part v 0 6 = p0)) (w : World) :
    Calls Tryz.prog 65 #[.int .u32 v, .agg #[.string ⟨nm.toArray⟩, .int .i64 ma, .int .i64 mi, .string ⟨([84, 105] : List UInt8).toArray⟩, .string ⟨od.toArray⟩, ks]] w fun e w' => e = .returned (.bool (rowB p26 p21 p16 p11 p6 p0 ⟨nm, ma, mi, [84, 105], od, kk⟩)) ∧ Keeps (fun _ => False) w w' := by
  have HB := Lib.hid (blk_alloc_new w (.cells #[.string ⟨nm.toArray⟩, .int .i64 ma, .int .i64 mi, .string ⟨([84, 105] : List UInt8).toArray⟩, .string ⟨od.toArray⟩, ks] 109 (0, 0)))
  have HK := Lib.hid ((Keeps.refl (fun _ => False) w).alloc (.cells #[.string ⟨nm.toArray⟩, .int .i64 ma, .int .i64 mi, .string ⟨([84, 105] : List UInt8).toArray⟩, .string ⟨od.toArray⟩, ks] 109 (0, 0)))
  have HR : Hid (rowB p26 p21 p16 p11 p6 p0 ⟨nm, ma, mi, [84, 105], od, kk⟩ = (decide (p26 = ((ma : Nat) : Int)) && decide (p21 = 0))) := Lib.hid (by
    have f106 : Cd.has [84, 105] 106 = false := by decide
    have f83 : Cd.has [84, 105] 83 = false := by decide
    have f84 : Cd.has [84, 105] 84 = true := by decide
    have f105 : Cd.has [84, 105] 105 = true := by decide
    have f68 : Cd.has [84, 105] 68 = false := by decide
    have f97 : Cd.has [84, 105] 97 = false := by decide
    have em : Cd.mid ⟨nm, ma, mi, [84, 105], od, kk⟩ = 0 := (if_neg h16)
    have el : Cd.low ⟨nm, ma, mi, [84, 105], od, kk⟩ = 0 := (by unfold Cd.low; rw [if_neg h0, if_neg (fun h => h16 h.1)])
    unfold rowB
    rw [em, el]
    simp only [f106, f83, f84, f105, f68, f97, Bool.true_or, Bool.false_or, Bool.or_true, Bool.and_true, Bool.true_and, Bool.and_assoc]
    all_goals first | rfl | simp)
  have tz := eqF (show ¬ (ma : Int) = 0 by omega)
  have tm := eqF (show ¬ (ma : Int) = 16 by omega)
  clear h0 h16
  by_cases c0 : p26 = ((ma : Nat) : Int)
  · have t0 := neF c0
    have C0 := Lib.hid c0
    clear c0
    by_cases c1 : p21 = 0
    · have t1 := neF c1
      have C1 := Lib.hid c1
      clear c1
      go_enter Tryz.func65, Tryz.ntmps65
      go_wp2_with fail
      go_quiet ((go_at_call 20; with_reducible exact part_26 v p26 hv H26.out _ _))
      go_wp2_with (first
        | (go_at_call 20; (with_reducible refine (part_21 v p21 hv H21.out _).mono ?_); rintro e w' ⟨rfl, rfl⟩)
        | (go_at_call 20; (with_reducible refine (part_16 v p16 hv H16.out _).mono ?_); rintro e w' ⟨rfl, rfl⟩)
        | (go_at_call 20; (with_reducible refine (part_11 v p11 hv H11.out _).mono ?_); rintro e w' ⟨rfl, rfl⟩)
        | (go_at_call 20; (with_reducible refine (part_6 v p6 hv H6.out _).mono ?_); rintro e w' ⟨rfl, rfl⟩)
        | (go_at_call 20; (with_reducible refine (part_0 v p0 hv H0.out _).mono ?_); rintro e w' ⟨rfl, rfl⟩)
        | (go_at_call 66; (with_reducible refine (isOf_n [84, 105] 106 106 (by decide) (by decide) false (by decide) _).mono ?_); rintro e w' ⟨rfl, rfl⟩)
        | (go_at_call 66; (with_reducible refine (isOf_n [84, 105] 83 83 (by decide) (by decide) false (by decide) _).mono ?_); rintro e w' ⟨rfl, rfl⟩)
        | (go_at_call 66; (with_reducible refine (isOf_n [84, 105] 84 84 (by decide) (by decide) true (by decide) _).mono ?_); rintro e w' ⟨rfl, rfl⟩)
        | (go_at_call 66; (with_reducible refine (isOf_n [84, 105] 105 105 (by decide) (by decide) true (by decide) _).mono ?_); rintro e w' ⟨rfl, rfl⟩)
        | (go_at_call 66; (with_reducible refine (isOf_n [84, 105] 68 68 (by decide) (by decide) false (by decide) _).mono ?_); rintro e w' ⟨rfl, rfl⟩)
        | (go_at_call 66; (with_reducible refine (isOf_n [84, 105] 97 97 (by decide) (by decide) false (by decide) _).mono ?_); rintro e w' ⟨rfl, rfl⟩))
      go_ret
      refine ⟨?_, HK.out.drewN _⟩
      rw [HR.out]
      simp [C0.out, C1.out, eqD]
    · have t1 := neT c1
      have C1 := Lib.hid c1
      clear c1
      go_enter Tryz.func65, Tryz.ntmps65
      go_wp2_with fail
      go_quiet ((go_at_call 20; with_reducible exact part_26 v p26 hv H26.out _ _))
      go_wp2_with (first
        | (go_at_call 20; (with_reducible refine (part_21 v p21 hv H21.out _).mono ?_); rintro e w' ⟨rfl, rfl⟩)
        | (go_at_call 20; (with_reducible refine (part_16 v p16 hv H16.out _).mono ?_); rintro e w' ⟨rfl, rfl⟩)
        | (go_at_call 20; (with_reducible refine (part_11 v p11 hv H11.out _).mono ?_); rintro e w' ⟨rfl, rfl⟩)
        | (go_at_call 20; (with_reducible refine (part_6 v p6 hv H6.out _).mono ?_); rintro e w' ⟨rfl, rfl⟩)
        | (go_at_call 20; (with_reducible refine (part_0 v p0 hv H0.out _).mono ?_); rintro e w' ⟨rfl, rfl⟩)
        | (go_at_call 66; (with_reducible refine (isOf_n [84, 105] 106 106 (by decide) (by decide) false (by decide) _).mono ?_); rintro e w' ⟨rfl, rfl⟩)
        | (go_at_call 66; (with_reducible refine (isOf_n [84, 105] 83 83 (by decide) (by decide) false (by decide) _).mono ?_); rintro e w' ⟨rfl, rfl⟩)
        | (go_at_call 66; (with_reducible refine (isOf_n [84, 105] 84 84 (by decide) (by decide) true (by decide) _).mono ?_); rintro e w' ⟨rfl, rfl⟩)
        | (go_at_call 66; (with_reducible refine (isOf_n [84, 105] 105 105 (by decide) (by decide) true (by decide) _).mono ?_); rintro e w' ⟨rfl, rfl⟩)
        | (go_at_call 66; (with_reducible refine (isOf_n [84, 105] 68 68 (by decide) (by decide) false (by decide) _).mono ?_); rintro e w' ⟨rfl, rfl⟩)
        | (go_at_call 66; (with_reducible refine (isOf_n [84, 105] 97 97 (by decide) (by decide) false (by decide) _).mono ?_); rintro e w' ⟨rfl, rfl⟩))
      go_ret
      refine ⟨?_, HK.out.drewN _⟩
      rw [HR.out]
      simp [C0.out, C1.out, eqD]
  · have t0 := neT c0
    have C0 := Lib.hid c0
    clear c0
    go_enter Tryz.func65, Tryz.ntmps65
    go_wp2_with fail
    go_quiet ((go_at_call 20; with_reducible exact part_26 v p26 hv H26.out _ _))
    go_wp2_with (first
      | (go_at_call 20; (with_reducible refine (part_21 v p21 hv H21.out _).mono ?_); rintro e w' ⟨rfl, rfl⟩)
      | (go_at_call 20; (with_reducible refine (part_16 v p16 hv H16.out _).mono ?_); rintro e w' ⟨rfl, rfl⟩)
      | (go_at_call 20; (with_reducible refine (part_11 v p11 hv H11.out _).mono ?_); rintro e w' ⟨rfl, rfl⟩)
      | (go_at_call 20; (with_reducible refine (part_6 v p6 hv H6.out _).mono ?_); rintro e w' ⟨rfl, rfl⟩)
      | (go_at_call 20; (with_reducible refine (part_0 v p0 hv H0.out _).mono ?_); rintro e w' ⟨rfl, rfl⟩)
      | (go_at_call 66; (with_reducible refine (isOf_n [84, 105] 106 106 (by decide) (by decide) false (by decide) _).mono ?_); rintro e w' ⟨rfl, rfl⟩)
      | (go_at_call 66; (with_reducible refine (isOf_n [84, 105] 83 83 (by decide) (by decide) false (by decide) _).mono ?_); rintro e w' ⟨rfl, rfl⟩)
      | (go_at_call 66; (with_reducible refine (isOf_n [84, 105] 84 84 (by decide) (by decide) true (by decide) _).mono ?_); rintro e w' ⟨rfl, rfl⟩)
      | (go_at_call 66; (with_reducible refine (isOf_n [84, 105] 105 105 (by decide) (by decide) true (by decide) _).mono ?_); rintro e w' ⟨rfl, rfl⟩)
      | (go_at_call 66; (with_reducible refine (isOf_n [84, 105] 68 68 (by decide) (by decide) false (by decide) _).mono ?_); rintro e w' ⟨rfl, rfl⟩)
      | (go_at_call 66; (with_reducible refine (isOf_n [84, 105] 97 97 (by decide) (by decide) false (by decide) _).mono ?_); rintro e w' ⟨rfl, rfl⟩))
    go_ret
    refine ⟨?_, HK.out.drewN _⟩
    rw [HR.out]
    simp [C0.out, eqD]
set_option maxRecDepth 100000 in
set_option maxHeartbeats 4000000 in
theorem matches_11 (v : Int) (hv : 0 ≤ v ∧ v < 4294967296) (nm od : List UInt8) (mi : Nat) (h16 : ¬ mi = 16) (kk : Nat) (ks : Value) (p26 p21 p16 p11 p6 p0 : Int) (H26 : Hid (Cd.part v 26 6 = p26)) (H21 : Hid (Cd.part v 21 5 = p21)) (H16 : Hid (Cd.part v 16 5 = p16)) (H11 : Hid (Cd.part v 11 5 = p11)) (H6 : Hid (Cd.part v 6 5 = p6)) (H0 : Hid (Cd.part v 0 6 = p0)) (w : World) :
    Calls Tryz.prog 65 #[.int .u32 v, .agg #[.string ⟨nm.toArray⟩, .int .i64 16, .int .i64 mi, .string ⟨([84, 68] : List UInt8).toArray⟩, .string ⟨od.toArray⟩, ks]] w fun e w' => e = .returned (.bool (rowB p26 p21 p16 p11 p6 p0 ⟨nm, 16, mi, [84, 68], od, kk⟩)) ∧ Keeps (fun _ => False) w w' := by
  have HB := Lib.hid (blk_alloc_new w (.cells #[.string ⟨nm.toArray⟩, .int .i64 16, .int .i64 mi, .string ⟨([84, 68] : List UInt8).toArray⟩, .string ⟨od.toArray⟩, ks] 109 (0, 0)))
  have HK := Lib.hid ((Keeps.refl (fun _ => False) w).alloc (.cells #[.string ⟨nm.toArray⟩, .int .i64 16, .int .i64 mi, .string ⟨([84, 68] : List UInt8).toArray⟩, .string ⟨od.toArray⟩, ks] 109 (0, 0)))
  have HR : Hid (rowB p26 p21 p16 p11 p6 p0 ⟨nm, 16, mi, [84, 68], od, kk⟩ = (decide (p26 = 16) && decide (p21 = (mi : Int)) && decide (p6 = 0) && decide (p0 = 0))) := Lib.hid (by
    have f106 : Cd.has [84, 68] 106 = false := by decide
    have f83 : Cd.has [84, 68] 83 = false := by decide
    have f84 : Cd.has [84, 68] 84 = true := by decide
    have f105 : Cd.has [84, 68] 105 = false := by decide
    have f68 : Cd.has [84, 68] 68 = true := by decide
    have f97 : Cd.has [84, 68] 97 = false := by decide
    have em : Cd.mid ⟨nm, 16, mi, [84, 68], od, kk⟩ = (mi : Int) := rfl
    have el : Cd.low ⟨nm, 16, mi, [84, 68], od, kk⟩ = 0 := (by show (if (16 : Nat) = 0 then ((mi : Nat) : Int) else if (16 : Nat) = 16 ∧ mi = 16 then (24 : Int) else 0) = 0; rw [if_neg (by decide), if_neg (fun h => h16 h.2)])
    unfold rowB
    rw [em, el]
    simp only [f106, f83, f84, f105, f68, f97, Bool.true_or, Bool.false_or, Bool.or_true, Bool.and_true, Bool.true_and, Bool.and_assoc]
    all_goals first | rfl | simp)
  have tm := eqF (show ¬ (mi : Int) = 16 by omega)
  clear h16
  by_cases c0 : p26 = 16
  · have t0 := neF c0
    have C0 := Lib.hid c0
    clear c0
    by_cases c1 : p21 = (mi : Int)
    · have t1 := neF c1
      have C1 := Lib.hid c1
      clear c1
      by_cases c2 : p6 = 0
      · have t2 := neF c2
        have C2 := Lib.hid c2
        clear c2
        go_enter Tryz.func65, Tryz.ntmps65
        go_wp2_with fail
        go_quiet ((go_at_call 20; with_reducible exact part_26 v p26 hv H26.out _ _))
        go_wp2_with (first
          | (go_at_call 20; (with_reducible refine (part_21 v p21 hv H21.out _).mono ?_); rintro e w' ⟨rfl, rfl⟩)
          | (go_at_call 20; (with_reducible refine (part_16 v p16 hv H16.out _).mono ?_); rintro e w' ⟨rfl, rfl⟩)
          | (go_at_call 20; (with_reducible refine (part_11 v p11 hv H11.out _).mono ?_); rintro e w' ⟨rfl, rfl⟩)
          | (go_at_call 20; (with_reducible refine (part_6 v p6 hv H6.out _).mono ?_); rintro e w' ⟨rfl, rfl⟩)
          | (go_at_call 20; (with_reducible refine (part_0 v p0 hv H0.out _).mono ?_); rintro e w' ⟨rfl, rfl⟩)
          | (go_at_call 66; (with_reducible refine (isOf_n [84, 68] 106 106 (by decide) (by decide) false (by decide) _).mono ?_); rintro e w' ⟨rfl, rfl⟩)
          | (go_at_call 66; (with_reducible refine (isOf_n [84, 68] 83 83 (by decide) (by decide) false (by decide) _).mono ?_); rintro e w' ⟨rfl, rfl⟩)
          | (go_at_call 66; (with_reducible refine (isOf_n [84, 68] 84 84 (by decide) (by decide) true (by decide) _).mono ?_); rintro e w' ⟨rfl, rfl⟩)
          | (go_at_call 66; (with_reducible refine (isOf_n [84, 68] 105 105 (by decide) (by decide) false (by decide) _).mono ?_); rintro e w' ⟨rfl, rfl⟩)
          | (go_at_call 66; (with_reducible refine (isOf_n [84, 68] 68 68 (by decide) (by decide) true (by decide) _).mono ?_); rintro e w' ⟨rfl, rfl⟩)
          | (go_at_call 66; (with_reducible refine (isOf_n [84, 68] 97 97 (by decide) (by decide) false (by decide) _).mono ?_); rintro e w' ⟨rfl, rfl⟩))
        go_ret
        refine ⟨?_, HK.out.drewN _⟩
        rw [HR.out]
        simp [C0.out, C1.out, C2.out, eqD]
      · have t2 := neT c2
        have C2 := Lib.hid c2
        clear c2
        go_enter Tryz.func65, Tryz.ntmps65
        go_wp2_with fail
        go_quiet ((go_at_call 20; with_reducible exact part_26 v p26 hv H26.out _ _))
        go_wp2_with (first
          | (go_at_call 20; (with_reducible refine (part_21 v p21 hv H21.out _).mono ?_); rintro e w' ⟨rfl, rfl⟩)
          | (go_at_call 20; (with_reducible refine (part_16 v p16 hv H16.out _).mono ?_); rintro e w' ⟨rfl, rfl⟩)
          | (go_at_call 20; (with_reducible refine (part_11 v p11 hv H11.out _).mono ?_); rintro e w' ⟨rfl, rfl⟩)
          | (go_at_call 20; (with_reducible refine (part_6 v p6 hv H6.out _).mono ?_); rintro e w' ⟨rfl, rfl⟩)
          | (go_at_call 20; (with_reducible refine (part_0 v p0 hv H0.out _).mono ?_); rintro e w' ⟨rfl, rfl⟩)
          | (go_at_call 66; (with_reducible refine (isOf_n [84, 68] 106 106 (by decide) (by decide) false (by decide) _).mono ?_); rintro e w' ⟨rfl, rfl⟩)
          | (go_at_call 66; (with_reducible refine (isOf_n [84, 68] 83 83 (by decide) (by decide) false (by decide) _).mono ?_); rintro e w' ⟨rfl, rfl⟩)
          | (go_at_call 66; (with_reducible refine (isOf_n [84, 68] 84 84 (by decide) (by decide) true (by decide) _).mono ?_); rintro e w' ⟨rfl, rfl⟩)
          | (go_at_call 66; (with_reducible refine (isOf_n [84, 68] 105 105 (by decide) (by decide) false (by decide) _).mono ?_); rintro e w' ⟨rfl, rfl⟩)
          | (go_at_call 66; (with_reducible refine (isOf_n [84, 68] 68 68 (by decide) (by decide) true (by decide) _).mono ?_); rintro e w' ⟨rfl, rfl⟩)
          | (go_at_call 66; (with_reducible refine (isOf_n [84, 68] 97 97 (by decide) (by decide) false (by decide) _).mono ?_); rintro e w' ⟨rfl, rfl⟩))
        go_ret
        refine ⟨?_, HK.out.drewN _⟩
        rw [HR.out]
        simp [C0.out, C1.out, C2.out, eqD]
    · have t1 := neT c1
      have C1 := Lib.hid c1
      clear c1
      go_enter Tryz.func65, Tryz.ntmps65
      go_wp2_with fail
      go_quiet ((go_at_call 20; with_reducible exact part_26 v p26 hv H26.out _ _))
      go_wp2_with (first
        | (go_at_call 20; (with_reducible refine (part_21 v p21 hv H21.out _).mono ?_); rintro e w' ⟨rfl, rfl⟩)
        | (go_at_call 20; (with_reducible refine (part_16 v p16 hv H16.out _).mono ?_); rintro e w' ⟨rfl, rfl⟩)
        | (go_at_call 20; (with_reducible refine (part_11 v p11 hv H11.out _).mono ?_); rintro e w' ⟨rfl, rfl⟩)
        | (go_at_call 20; (with_reducible refine (part_6 v p6 hv H6.out _).mono ?_); rintro e w' ⟨rfl, rfl⟩)
        | (go_at_call 20; (with_reducible refine (part_0 v p0 hv H0.out _).mono ?_); rintro e w' ⟨rfl, rfl⟩)
        | (go_at_call 66; (with_reducible refine (isOf_n [84, 68] 106 106 (by decide) (by decide) false (by decide) _).mono ?_); rintro e w' ⟨rfl, rfl⟩)
        | (go_at_call 66; (with_reducible refine (isOf_n [84, 68] 83 83 (by decide) (by decide) false (by decide) _).mono ?_); rintro e w' ⟨rfl, rfl⟩)
        | (go_at_call 66; (with_reducible refine (isOf_n [84, 68] 84 84 (by decide) (by decide) true (by decide) _).mono ?_); rintro e w' ⟨rfl, rfl⟩)
        | (go_at_call 66; (with_reducible refine (isOf_n [84, 68] 105 105 (by decide) (by decide) false (by decide) _).mono ?_); rintro e w' ⟨rfl, rfl⟩)
        | (go_at_call 66; (with_reducible refine (isOf_n [84, 68] 68 68 (by decide) (by decide) true (by decide) _).mono ?_); rintro e w' ⟨rfl, rfl⟩)
        | (go_at_call 66; (with_reducible refine (isOf_n [84, 68] 97 97 (by decide) (by decide) false (by decide) _).mono ?_); rintro e w' ⟨rfl, rfl⟩))
      go_ret
      refine ⟨?_, HK.out.drewN _⟩
      rw [HR.out]
      simp [C0.out, C1.out, eqD]
  · have t0 := neT c0
    have C0 := Lib.hid c0
    clear c0
    go_enter Tryz.func65, Tryz.ntmps65
    go_wp2_with fail
    go_quiet ((go_at_call 20; with_reducible exact part_26 v p26 hv H26.out _ _))
    go_wp2_with (first
      | (go_at_call 20; (with_reducible refine (part_21 v p21 hv H21.out _).mono ?_); rintro e w' ⟨rfl, rfl⟩)
      | (go_at_call 20; (with_reducible refine (part_16 v p16 hv H16.out _).mono ?_); rintro e w' ⟨rfl, rfl⟩)
      | (go_at_call 20; (with_reducible refine (part_11 v p11 hv H11.out _).mono ?_); rintro e w' ⟨rfl, rfl⟩)
      | (go_at_call 20; (with_reducible refine (part_6 v p6 hv H6.out _).mono ?_); rintro e w' ⟨rfl, rfl⟩)
      | (go_at_call 20; (with_reducible refine (part_0 v p0 hv H0.out _).mono ?_); rintro e w' ⟨rfl, rfl⟩)
      | (go_at_call 66; (with_reducible refine (isOf_n [84, 68] 106 106 (by decide) (by decide) false (by decide) _).mono ?_); rintro e w' ⟨rfl, rfl⟩)
      | (go_at_call 66; (with_reducible refine (isOf_n [84, 68] 83 83 (by decide) (by decide) false (by decide) _).mono ?_); rintro e w' ⟨rfl, rfl⟩)
      | (go_at_call 66; (with_reducible refine (isOf_n [84, 68] 84 84 (by decide) (by decide) true (by decide) _).mono ?_); rintro e w' ⟨rfl, rfl⟩)
      | (go_at_call 66; (with_reducible refine (isOf_n [84, 68] 105 105 (by decide) (by decide) false (by decide) _).mono ?_); rintro e w' ⟨rfl, rfl⟩)
      | (go_at_call 66; (with_reducible refine (isOf_n [84, 68] 68 68 (by decide) (by decide) true (by decide) _).mono ?_); rintro e w' ⟨rfl, rfl⟩)
      | (go_at_call 66; (with_reducible refine (isOf_n [84, 68] 97 97 (by decide) (by decide) false (by decide) _).mono ?_); rintro e w' ⟨rfl, rfl⟩))
    go_ret
    refine ⟨?_, HK.out.drewN _⟩
    rw [HR.out]
    simp [C0.out, eqD]
set_option maxRecDepth 100000 in
set_option maxHeartbeats 4000000 in
theorem matches_12 (v : Int) (hv : 0 ≤ v ∧ v < 4294967296) (nm od : List UInt8) (kk : Nat) (ks : Value) (p26 p21 p16 p11 p6 p0 : Int) (H26 : Hid (Cd.part v 26 6 = p26)) (H21 : Hid (Cd.part v 21 5 = p21)) (H16 : Hid (Cd.part v 16 5 = p16)) (H11 : Hid (Cd.part v 11 5 = p11)) (H6 : Hid (Cd.part v 6 5 = p6)) (H0 : Hid (Cd.part v 0 6 = p0)) (w : World) :
    Calls Tryz.prog 65 #[.int .u32 v, .agg #[.string ⟨nm.toArray⟩, .int .i64 16, .int .i64 16, .string ⟨([] : List UInt8).toArray⟩, .string ⟨od.toArray⟩, ks]] w fun e w' => e = .returned (.bool (rowB p26 p21 p16 p11 p6 p0 ⟨nm, 16, 16, [], od, kk⟩)) ∧ Keeps (fun _ => False) w w' := by
  have HB := Lib.hid (blk_alloc_new w (.cells #[.string ⟨nm.toArray⟩, .int .i64 16, .int .i64 16, .string ⟨([] : List UInt8).toArray⟩, .string ⟨od.toArray⟩, ks] 109 (0, 0)))
  have HK := Lib.hid ((Keeps.refl (fun _ => False) w).alloc (.cells #[.string ⟨nm.toArray⟩, .int .i64 16, .int .i64 16, .string ⟨([] : List UInt8).toArray⟩, .string ⟨od.toArray⟩, ks] 109 (0, 0)))
  have HR : Hid (rowB p26 p21 p16 p11 p6 p0 ⟨nm, 16, 16, [], od, kk⟩ = (decide (p26 = 16) && decide (p21 = 16) && decide (p16 = 0) && decide (p11 = 0) && decide (p6 = 0) && decide (p0 = 24))) := Lib.hid (by
    have f106 : Cd.has [] 106 = false := by decide
    have f83 : Cd.has [] 83 = false := by decide
    have f84 : Cd.has [] 84 = false := by decide
    have f105 : Cd.has [] 105 = false := by decide
    have f68 : Cd.has [] 68 = false := by decide
    have f97 : Cd.has [] 97 = false := by decide
    have em : Cd.mid ⟨nm, 16, 16, [], od, kk⟩ = 16 := rfl
    have el : Cd.low ⟨nm, 16, 16, [], od, kk⟩ = 24 := rfl
    unfold rowB
    rw [em, el]
    simp only [f106, f83, f84, f105, f68, f97, Bool.true_or, Bool.false_or, Bool.or_true, Bool.and_true, Bool.true_and, Bool.and_assoc]
    all_goals first | rfl | simp)
  by_cases c0 : p26 = 16
  · have t0 := neF c0
    have C0 := Lib.hid c0
    clear c0
    by_cases c1 : p21 = 16
    · have t1 := neF c1
      have C1 := Lib.hid c1
      clear c1
      by_cases c2 : p16 = 0
      · have t2 := neF c2
        have C2 := Lib.hid c2
        clear c2
        by_cases c3 : p11 = 0
        · have t3 := neF c3
          have C3 := Lib.hid c3
          clear c3
          by_cases c4 : p6 = 0
          · have t4 := neF c4
            have C4 := Lib.hid c4
            clear c4
            go_enter Tryz.func65, Tryz.ntmps65
            go_wp2_with fail
            go_quiet ((go_at_call 20; with_reducible exact part_26 v p26 hv H26.out _ _))
            go_wp2_with (first
              | (go_at_call 20; (with_reducible refine (part_21 v p21 hv H21.out _).mono ?_); rintro e w' ⟨rfl, rfl⟩)
              | (go_at_call 20; (with_reducible refine (part_16 v p16 hv H16.out _).mono ?_); rintro e w' ⟨rfl, rfl⟩)
              | (go_at_call 20; (with_reducible refine (part_11 v p11 hv H11.out _).mono ?_); rintro e w' ⟨rfl, rfl⟩)
              | (go_at_call 20; (with_reducible refine (part_6 v p6 hv H6.out _).mono ?_); rintro e w' ⟨rfl, rfl⟩)
              | (go_at_call 20; (with_reducible refine (part_0 v p0 hv H0.out _).mono ?_); rintro e w' ⟨rfl, rfl⟩)
              | (go_at_call 66; (with_reducible refine (isOf_n [] 106 106 (by decide) (by decide) false (by decide) _).mono ?_); rintro e w' ⟨rfl, rfl⟩)
              | (go_at_call 66; (with_reducible refine (isOf_n [] 83 83 (by decide) (by decide) false (by decide) _).mono ?_); rintro e w' ⟨rfl, rfl⟩)
              | (go_at_call 66; (with_reducible refine (isOf_n [] 84 84 (by decide) (by decide) false (by decide) _).mono ?_); rintro e w' ⟨rfl, rfl⟩)
              | (go_at_call 66; (with_reducible refine (isOf_n [] 105 105 (by decide) (by decide) false (by decide) _).mono ?_); rintro e w' ⟨rfl, rfl⟩)
              | (go_at_call 66; (with_reducible refine (isOf_n [] 68 68 (by decide) (by decide) false (by decide) _).mono ?_); rintro e w' ⟨rfl, rfl⟩)
              | (go_at_call 66; (with_reducible refine (isOf_n [] 97 97 (by decide) (by decide) false (by decide) _).mono ?_); rintro e w' ⟨rfl, rfl⟩))
            go_ret
            refine ⟨?_, HK.out.drewN _⟩
            rw [HR.out]
            simp [C0.out, C1.out, C2.out, C3.out, C4.out, eqD]
          · have t4 := neT c4
            have C4 := Lib.hid c4
            clear c4
            go_enter Tryz.func65, Tryz.ntmps65
            go_wp2_with fail
            go_quiet ((go_at_call 20; with_reducible exact part_26 v p26 hv H26.out _ _))
            go_wp2_with (first
              | (go_at_call 20; (with_reducible refine (part_21 v p21 hv H21.out _).mono ?_); rintro e w' ⟨rfl, rfl⟩)
              | (go_at_call 20; (with_reducible refine (part_16 v p16 hv H16.out _).mono ?_); rintro e w' ⟨rfl, rfl⟩)
              | (go_at_call 20; (with_reducible refine (part_11 v p11 hv H11.out _).mono ?_); rintro e w' ⟨rfl, rfl⟩)
              | (go_at_call 20; (with_reducible refine (part_6 v p6 hv H6.out _).mono ?_); rintro e w' ⟨rfl, rfl⟩)
              | (go_at_call 20; (with_reducible refine (part_0 v p0 hv H0.out _).mono ?_); rintro e w' ⟨rfl, rfl⟩)
              | (go_at_call 66; (with_reducible refine (isOf_n [] 106 106 (by decide) (by decide) false (by decide) _).mono ?_); rintro e w' ⟨rfl, rfl⟩)
              | (go_at_call 66; (with_reducible refine (isOf_n [] 83 83 (by decide) (by decide) false (by decide) _).mono ?_); rintro e w' ⟨rfl, rfl⟩)
              | (go_at_call 66; (with_reducible refine (isOf_n [] 84 84 (by decide) (by decide) false (by decide) _).mono ?_); rintro e w' ⟨rfl, rfl⟩)
              | (go_at_call 66; (with_reducible refine (isOf_n [] 105 105 (by decide) (by decide) false (by decide) _).mono ?_); rintro e w' ⟨rfl, rfl⟩)
              | (go_at_call 66; (with_reducible refine (isOf_n [] 68 68 (by decide) (by decide) false (by decide) _).mono ?_); rintro e w' ⟨rfl, rfl⟩)
              | (go_at_call 66; (with_reducible refine (isOf_n [] 97 97 (by decide) (by decide) false (by decide) _).mono ?_); rintro e w' ⟨rfl, rfl⟩))
            go_ret
            refine ⟨?_, HK.out.drewN _⟩
            rw [HR.out]
            simp [C0.out, C1.out, C2.out, C3.out, C4.out, eqD]
        · have t3 := neT c3
          have C3 := Lib.hid c3
          clear c3
          go_enter Tryz.func65, Tryz.ntmps65
          go_wp2_with fail
          go_quiet ((go_at_call 20; with_reducible exact part_26 v p26 hv H26.out _ _))
          go_wp2_with (first
            | (go_at_call 20; (with_reducible refine (part_21 v p21 hv H21.out _).mono ?_); rintro e w' ⟨rfl, rfl⟩)
            | (go_at_call 20; (with_reducible refine (part_16 v p16 hv H16.out _).mono ?_); rintro e w' ⟨rfl, rfl⟩)
            | (go_at_call 20; (with_reducible refine (part_11 v p11 hv H11.out _).mono ?_); rintro e w' ⟨rfl, rfl⟩)
            | (go_at_call 20; (with_reducible refine (part_6 v p6 hv H6.out _).mono ?_); rintro e w' ⟨rfl, rfl⟩)
            | (go_at_call 20; (with_reducible refine (part_0 v p0 hv H0.out _).mono ?_); rintro e w' ⟨rfl, rfl⟩)
            | (go_at_call 66; (with_reducible refine (isOf_n [] 106 106 (by decide) (by decide) false (by decide) _).mono ?_); rintro e w' ⟨rfl, rfl⟩)
            | (go_at_call 66; (with_reducible refine (isOf_n [] 83 83 (by decide) (by decide) false (by decide) _).mono ?_); rintro e w' ⟨rfl, rfl⟩)
            | (go_at_call 66; (with_reducible refine (isOf_n [] 84 84 (by decide) (by decide) false (by decide) _).mono ?_); rintro e w' ⟨rfl, rfl⟩)
            | (go_at_call 66; (with_reducible refine (isOf_n [] 105 105 (by decide) (by decide) false (by decide) _).mono ?_); rintro e w' ⟨rfl, rfl⟩)
            | (go_at_call 66; (with_reducible refine (isOf_n [] 68 68 (by decide) (by decide) false (by decide) _).mono ?_); rintro e w' ⟨rfl, rfl⟩)
            | (go_at_call 66; (with_reducible refine (isOf_n [] 97 97 (by decide) (by decide) false (by decide) _).mono ?_); rintro e w' ⟨rfl, rfl⟩))
          go_ret
          refine ⟨?_, HK.out.drewN _⟩
          rw [HR.out]
          simp [C0.out, C1.out, C2.out, C3.out, eqD]
      · have t2 := neT c2
        have C2 := Lib.hid c2
        clear c2
        go_enter Tryz.func65, Tryz.ntmps65
        go_wp2_with fail
        go_quiet ((go_at_call 20; with_reducible exact part_26 v p26 hv H26.out _ _))
        go_wp2_with (first
          | (go_at_call 20; (with_reducible refine (part_21 v p21 hv H21.out _).mono ?_); rintro e w' ⟨rfl, rfl⟩)
          | (go_at_call 20; (with_reducible refine (part_16 v p16 hv H16.out _).mono ?_); rintro e w' ⟨rfl, rfl⟩)
          | (go_at_call 20; (with_reducible refine (part_11 v p11 hv H11.out _).mono ?_); rintro e w' ⟨rfl, rfl⟩)
          | (go_at_call 20; (with_reducible refine (part_6 v p6 hv H6.out _).mono ?_); rintro e w' ⟨rfl, rfl⟩)
          | (go_at_call 20; (with_reducible refine (part_0 v p0 hv H0.out _).mono ?_); rintro e w' ⟨rfl, rfl⟩)
          | (go_at_call 66; (with_reducible refine (isOf_n [] 106 106 (by decide) (by decide) false (by decide) _).mono ?_); rintro e w' ⟨rfl, rfl⟩)
          | (go_at_call 66; (with_reducible refine (isOf_n [] 83 83 (by decide) (by decide) false (by decide) _).mono ?_); rintro e w' ⟨rfl, rfl⟩)
          | (go_at_call 66; (with_reducible refine (isOf_n [] 84 84 (by decide) (by decide) false (by decide) _).mono ?_); rintro e w' ⟨rfl, rfl⟩)
          | (go_at_call 66; (with_reducible refine (isOf_n [] 105 105 (by decide) (by decide) false (by decide) _).mono ?_); rintro e w' ⟨rfl, rfl⟩)
          | (go_at_call 66; (with_reducible refine (isOf_n [] 68 68 (by decide) (by decide) false (by decide) _).mono ?_); rintro e w' ⟨rfl, rfl⟩)
          | (go_at_call 66; (with_reducible refine (isOf_n [] 97 97 (by decide) (by decide) false (by decide) _).mono ?_); rintro e w' ⟨rfl, rfl⟩))
        go_ret
        refine ⟨?_, HK.out.drewN _⟩
        rw [HR.out]
        simp [C0.out, C1.out, C2.out, eqD]
    · have t1 := neT c1
      have C1 := Lib.hid c1
      clear c1
      go_enter Tryz.func65, Tryz.ntmps65
      go_wp2_with fail
      go_quiet ((go_at_call 20; with_reducible exact part_26 v p26 hv H26.out _ _))
      go_wp2_with (first
        | (go_at_call 20; (with_reducible refine (part_21 v p21 hv H21.out _).mono ?_); rintro e w' ⟨rfl, rfl⟩)
        | (go_at_call 20; (with_reducible refine (part_16 v p16 hv H16.out _).mono ?_); rintro e w' ⟨rfl, rfl⟩)
        | (go_at_call 20; (with_reducible refine (part_11 v p11 hv H11.out _).mono ?_); rintro e w' ⟨rfl, rfl⟩)
        | (go_at_call 20; (with_reducible refine (part_6 v p6 hv H6.out _).mono ?_); rintro e w' ⟨rfl, rfl⟩)
        | (go_at_call 20; (with_reducible refine (part_0 v p0 hv H0.out _).mono ?_); rintro e w' ⟨rfl, rfl⟩)
        | (go_at_call 66; (with_reducible refine (isOf_n [] 106 106 (by decide) (by decide) false (by decide) _).mono ?_); rintro e w' ⟨rfl, rfl⟩)
        | (go_at_call 66; (with_reducible refine (isOf_n [] 83 83 (by decide) (by decide) false (by decide) _).mono ?_); rintro e w' ⟨rfl, rfl⟩)
        | (go_at_call 66; (with_reducible refine (isOf_n [] 84 84 (by decide) (by decide) false (by decide) _).mono ?_); rintro e w' ⟨rfl, rfl⟩)
        | (go_at_call 66; (with_reducible refine (isOf_n [] 105 105 (by decide) (by decide) false (by decide) _).mono ?_); rintro e w' ⟨rfl, rfl⟩)
        | (go_at_call 66; (with_reducible refine (isOf_n [] 68 68 (by decide) (by decide) false (by decide) _).mono ?_); rintro e w' ⟨rfl, rfl⟩)
        | (go_at_call 66; (with_reducible refine (isOf_n [] 97 97 (by decide) (by decide) false (by decide) _).mono ?_); rintro e w' ⟨rfl, rfl⟩))
      go_ret
      refine ⟨?_, HK.out.drewN _⟩
      rw [HR.out]
      simp [C0.out, C1.out, eqD]
  · have t0 := neT c0
    have C0 := Lib.hid c0
    clear c0
    go_enter Tryz.func65, Tryz.ntmps65
    go_wp2_with fail
    go_quiet ((go_at_call 20; with_reducible exact part_26 v p26 hv H26.out _ _))
    go_wp2_with (first
      | (go_at_call 20; (with_reducible refine (part_21 v p21 hv H21.out _).mono ?_); rintro e w' ⟨rfl, rfl⟩)
      | (go_at_call 20; (with_reducible refine (part_16 v p16 hv H16.out _).mono ?_); rintro e w' ⟨rfl, rfl⟩)
      | (go_at_call 20; (with_reducible refine (part_11 v p11 hv H11.out _).mono ?_); rintro e w' ⟨rfl, rfl⟩)
      | (go_at_call 20; (with_reducible refine (part_6 v p6 hv H6.out _).mono ?_); rintro e w' ⟨rfl, rfl⟩)
      | (go_at_call 20; (with_reducible refine (part_0 v p0 hv H0.out _).mono ?_); rintro e w' ⟨rfl, rfl⟩)
      | (go_at_call 66; (with_reducible refine (isOf_n [] 106 106 (by decide) (by decide) false (by decide) _).mono ?_); rintro e w' ⟨rfl, rfl⟩)
      | (go_at_call 66; (with_reducible refine (isOf_n [] 83 83 (by decide) (by decide) false (by decide) _).mono ?_); rintro e w' ⟨rfl, rfl⟩)
      | (go_at_call 66; (with_reducible refine (isOf_n [] 84 84 (by decide) (by decide) false (by decide) _).mono ?_); rintro e w' ⟨rfl, rfl⟩)
      | (go_at_call 66; (with_reducible refine (isOf_n [] 105 105 (by decide) (by decide) false (by decide) _).mono ?_); rintro e w' ⟨rfl, rfl⟩)
      | (go_at_call 66; (with_reducible refine (isOf_n [] 68 68 (by decide) (by decide) false (by decide) _).mono ?_); rintro e w' ⟨rfl, rfl⟩)
      | (go_at_call 66; (with_reducible refine (isOf_n [] 97 97 (by decide) (by decide) false (by decide) _).mono ?_); rintro e w' ⟨rfl, rfl⟩))
    go_ret
    refine ⟨?_, HK.out.drewN _⟩
    rw [HR.out]
    simp [C0.out, eqD]
end Go.Proofs.YtlbdkcnbgdmpaaaGreatDoor
