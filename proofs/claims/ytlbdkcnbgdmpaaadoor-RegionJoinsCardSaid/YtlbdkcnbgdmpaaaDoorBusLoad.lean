
/- The walk of (*Bus).Load. -/
import Derived.Test.YtlbdkcnbgdmpaaaDoorBusDev
namespace Go.Proofs.YtlbdkcnbgdmpaaaDoor
open Go.RowKit Go.Deep
set_option linter.unusedVariables false

set_option maxRecDepth 100000 in
set_option maxHeartbeats 1000000 in
theorem bload_ok (b r pb pw ph cp : Nat) (m : Nat → Int) (a n c : Int) (s : Bool) (w : World) (hb : w.cell? ⟨b, 0, none⟩ = some (.pointer (some ⟨r, 0, none⟩))) (R : RamAt w r pb pw ph cp m) (h0 : 0 ≤ a ∧ a < 4294967296) (h : rightC a n = 0) :
    Calls Tryd.prog 87 #[.pointer (some ⟨b, 0, none⟩), .int .u32 a, .int .i64 n, .bool s, .int .i64 c] w fun e w' => e = .returned (.tuple #[.int .u32 (Wd.wide (be m a.toNat n.toNat) (8 * n) s), .nilIface]) ∧ w = w' := by
  have hlt := (rightC_ok h).2.2
  go_enter Tryd.func87, Tryd.ntmps87
  go_wp2_with fail
  refine (load_okI _ _ _ _ _ m a n s _ R h0.1 h).mono ?_
  rintro e w' ⟨rfl, rfl⟩
  go_wp2_with fail
  go_ret2
  exact ⟨rfl, rfl⟩
set_option maxRecDepth 100000 in
set_option maxHeartbeats 1000000 in
theorem bload_bad (b r : Nat) (a n c : Int) (s : Bool) (w : World) (ea : Nat → Addr) (E : Errs3 w ea) (hb : w.cell? ⟨b, 0, none⟩ = some (.pointer (some ⟨r, 0, none⟩))) (h0 : 0 ≤ a ∧ a < 4294967296) (hlt : a < 16384) (h : rightC a n ≠ 0) :
    Calls Tryd.prog 87 #[.pointer (some ⟨b, 0, none⟩), .int .u32 a, .int .i64 n, .bool s, .int .i64 c] w fun e w' => e = .returned (.tuple #[.int .u32 0, errV ea (rightC a n)]) ∧ w = w' := by
  go_enter Tryd.func87, Tryd.ntmps87
  go_wp2_with fail
  refine (load_bad _ a n s _ ea E h0 h).mono ?_
  rintro e w' ⟨rfl, rfl⟩
  unfold errV
  go_wp2_with fail
  go_ret2
  exact ⟨rfl, rfl⟩
set_option maxHeartbeats 1000000 in
theorem bload_dbad (b : Nat) (a n c : Int) (s : Bool) (w : World) (ea : Nat → Addr) (E : Errs3 w ea) (h0 : 0 ≤ a ∧ a < 4294967296) (hlt : ¬ a < 16384) (h : devC a n ≠ 0) :
    Calls Tryd.prog 87 #[.pointer (some ⟨b, 0, none⟩), .int .u32 a, .int .i64 n, .bool s, .int .i64 c] w fun e w' => e = .returned (.tuple #[.int .u32 0, errV ea (devC a n)]) ∧ w = w' := by
  go_enter Tryd.func87, Tryd.ntmps87
  go_wp2_with fail
  refine (device_bad a n _ ea E h0 h).mono ?_
  rintro e w' ⟨rfl, rfl⟩
  unfold errV
  go_wp2_with fail
  go_ret2
  exact ⟨rfl, rfl⟩

/-- what a device answers -/
def devV (a c lamp : Int) : Int := if a = 65540 then c % 4294967296 else if a = 65544 then lamp else 0
set_option maxHeartbeats 1000000 in
theorem bload_dev (b r : Nat) (ov : Value) (on : Nat) (ob : List Value) (lamp : Int) (tv : Value) (tn : Nat) (tb : List Value) (a n c : Int) (s : Bool) (w : World) (B : BusAt w b r ov on ob lamp tv tn tb) (hn : tn < 1000000) (h0 : 0 ≤ a ∧ a < 4294967296) (h : devC a n = 0) :
    Calls Tryd.prog 87 #[.pointer (some ⟨b, 0, none⟩), .int .u32 a, .int .i64 n, .bool s, .int .i64 c] w fun e w' => e = .returned (.tuple #[.int .u32 (devV a c lamp), .nilIface]) ∧
      ∃ tv', BusAt w' b r ov on ob lamp tv' (tn + 1) (tb ++ accC c false a (devV a c lamp)) ∧ Moved w tv tv' ∧ Keeps (fun k => k = b ∨ tv.ownBlock = some k) w w' := by
  obtain ⟨rfl, h1, h2, h3⟩ := devC_ok h
  have hlt : ¬ a < 16384 := by omega
  have hl : w.cell? ⟨b, 2, none⟩ = some (.int .u32 lamp) := by simp [World.cell?, B.box]
  have hwc : IntKind.u32.wrap c = c % 4294967296 := rfl
  by_cases t1 : a = 65540
  · have hv : devV a c lamp = c % 4294967296 := by rw [devV, if_pos t1]
    rw [hv]
    subst t1
    go_enter Tryd.func87, Tryd.ntmps87
    go_wp2_with fail
    refine (device_ok _ _ _ (by omega) h).mono ?_
    rintro e w' ⟨rfl, rfl⟩
    go_wp2_with fail
    refine (told_any b r ov on ob lamp tv tn tb c false _ _ _ B hn).mono ?_
    rintro e w' ⟨rfl, hT⟩
    go_wp2_with fail
    go_ret2
    exact ⟨rfl, hT⟩
  · have t1' : (a == 65540) = false := by simpa using t1
    by_cases t2 : a = 65544
    · have hv : devV a c lamp = lamp := by rw [devV, if_neg t1, if_pos t2]
      rw [hv]
      subst t2
      go_enter Tryd.func87, Tryd.ntmps87
      go_wp2_with fail
      refine (device_ok _ _ _ (by omega) h).mono ?_
      rintro e w' ⟨rfl, rfl⟩
      go_wp2_with fail
      refine (told_any b r ov on ob lamp tv tn tb c false _ _ _ B hn).mono ?_
      rintro e w' ⟨rfl, hT⟩
      go_wp2_with fail
      go_ret2
      exact ⟨rfl, hT⟩
    · have t2' : (a == 65544) = false := by simpa using t2
      have hv : devV a c lamp = 0 := by rw [devV, if_neg t1, if_neg t2]
      rw [hv]
      go_enter Tryd.func87, Tryd.ntmps87
      go_wp2_with fail
      refine (device_ok _ _ _ (by omega) h).mono ?_
      rintro e w' ⟨rfl, rfl⟩
      go_wp2_with fail
      refine (told_any b r ov on ob lamp tv tn tb c false _ _ _ B hn).mono ?_
      rintro e w' ⟨rfl, hT⟩
      go_wp2_with fail
      go_ret2
      exact ⟨rfl, hT⟩
end Go.Proofs.YtlbdkcnbgdmpaaaDoor
