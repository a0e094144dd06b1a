import Derived.Test.YtlbdkcnbgdmpaaaGreatDoorOnez2
import Derived.Deep.RegionHeld3
import Derived.Laws.Externs
import Derived.MapKept
import Derived.Lib.SliceRun
import Derived.Laws.IdiomStrings

/- RamCopy -/
/- The walks of slices.Clone over bytes, maps.Clone, and (*Ram).Copy. -/
namespace Go.Proofs.YtlbdkcnbgdmpaaaGreatDoor
open Go.RowKit Go.Deep
set_option linter.unusedVariables false

section
variable {P : Program} (w : World)
theorem run_equalIn_map_nil (d : Nat) (t k e : TypeId) (p : Option Nat) (h : P.underlying t = some (.map k e)) :
    (Op.equalIn (d + 1) t (.map p) (.map none)).run P w = .ok p.isNone w := by
  cases p <;> simp [Op.equalIn, run_underlying h]
theorem run_eql_map_none (t k e : TypeId) (p : Option Nat) (h : P.underlying t = some (.map k e)) :
    (binOp .eql t (.map p) (.map none)).run P w = .ok (.bool p.isNone) w := by
  simp only [binOp]
  simp [show Op.equal t (.map p) (.map none) = Op.equalIn (9999 + 1) t (.map p) (.map none) from rfl, run_equalIn_map_nil w 9999 t k e p h]
theorem run_typeAssert_map (t xT k e : TypeId) (v : Value) (h : P.underlying t = some (.map k e)) : (Instr.typeAssert (.iface t v) xT t false).run P w = .ok v w := by
  simp [Instr.typeAssert, run_underlying h, go_sem, Result.andThen]
theorem run_maps_clone {r : Nat} {es : Array MapEntry} {clock : Nat} (t : TypeId) (hb : w.heap[r]? = some (.map es clock)) :
    (Extern.MapsClone.clone #[.iface t (.map (some r))]).run P w = .ok (.iface t (.map (some w.heap.size))) (w.alloc (.map es clock)) := by
  have e : Extern.MapsClone.clone #[.iface t (.map (some r))] = (getObj r >>= fun o => match o with
      | .map entries clock => (newObj (.map entries clock) >>= fun n => pure (.iface t (.map (some n))))
      | _ => stuck "maps.clone: a map expected") := rfl
  rw [e]
  simp [MapKept.run_getObj_map hb, Result.andThen, go_sem]
end

/-- what Clone leaves: a row of its own with the same cells -/
def Cloned (n : Nat) (f : Nat → Value) (w : World) (e : Ending) (w' : World) : Prop :=
  ∃ g cap, e = .returned (.slice (some ⟨g, 0, none⟩) n cap) ∧ w.heap.size ≤ g ∧ n ≤ cap ∧ cap ≤ maxLen ∧ RowTo w' g 5 n f ∧ Keeps (fun _ => False) w w'

/-- a copy of a map, and no more -/
def MapCloned (es : Array MapEntry) (c : Nat) (w : World) (e : Ending) (w' : World) : Prop :=
  ∃ b, e = .returned (.map (some b)) ∧ w.heap.size ≤ b ∧ w'.heap[b]? = some (.map es c) ∧ Keeps (fun _ => False) w w'
/-- what Copy leaves: a Ram of its own that has what the other one has -/
def Copied (m : Nat → Int) (es eh : Array MapEntry) (cw ch : Nat) (w : World) (e : Ending) (w' : World) : Prop :=
  ∃ r pb pw ph cp, e = .returned (.pointer (some ⟨r, 0, none⟩)) ∧ RamAt w' r pb pw ph cp m ∧ w'.heap[pw]? = some (.map es cw) ∧ w'.heap[ph]? = some (.map eh ch) ∧
    (w.heap.size ≤ r ∧ w.heap.size ≤ pb ∧ w.heap.size ≤ pw ∧ w.heap.size ≤ ph) ∧ Keeps (fun _ => False) w w'
theorem lt_map {w : World} {b : Nat} {es : Array MapEntry} {c : Nat} (h : w.heap[b]? = some (.map es c)) : b < w.heap.size := (Array.getElem?_eq_some_iff.1 h).1
theorem copied_end {m : Nat → Int} {es eh : Array MapEntry} {cw ch : Nat} {w W : World} {g b1 b2 cap : Nat} (hm : ∀ i, i < 16384 → 0 ≤ m i ∧ m i < 256) (hg : RowTo W g 5 16384 (fun i => .int .u8 (m i))) (h1 : W.heap[b1]? = some (.map es cw)) (h2 : W.heap[b2]? = some (.map eh ch))
    (hc : 16384 ≤ cap ∧ cap ≤ maxLen) (hs : w.heap.size ≤ g ∧ w.heap.size ≤ b1 ∧ w.heap.size ≤ b2) (hne : g ≠ b1 ∧ g ≠ b2 ∧ b1 ≠ b2) (hk : Keeps (fun _ => False) w W) :
    Copied m es eh cw ch w (.returned (.pointer (some ⟨W.heap.size, 0, none⟩))) (W.alloc (.cells #[.slice (some ⟨g, 0, none⟩) 16384 cap, .map (some b1), .map (some b2)] 57)) := by
  have l1 := lt_map h1
  have l2 := lt_map h2
  have l3 := hg.lt
  have hsz := hk.size
  refine ⟨W.heap.size, g, b1, b2, cap, rfl, ⟨blk_alloc_new _ _, hg.alloc _, ⟨hc.1, by have := hc.2; unfold maxLen at this; omega⟩, hm, by omega⟩, (blk_alloc_lt _ _ _ l1).trans h1, (blk_alloc_lt _ _ _ l2).trans h2, by omega, hk.alloc _⟩

end Go.Proofs.YtlbdkcnbgdmpaaaGreatDoor

/- RamKeeps -/
/- The walk of the law RamKeeps. -/
namespace Go.Proofs.YtlbdkcnbgdmpaaaGreatDoor
open Go.RowKit Go.Deep
set_option linter.unusedVariables false

theorem be_congr {m m' : Nat → Int} {a : Nat} : ∀ n, (∀ k, k < n → m (a + k) = m' (a + k)) → be m a n = be m' a n
  | 0, _ => rfl
  | n + 1, h => by
    show 256 * be m a n + m (a + n) = 256 * be m' a n + m' (a + n)
    rw [be_congr n (fun k hk => h k (by omega)), h n (by omega)]
theorem be_stTo {m : Nat → Int} {a n : Nat} {v : Int} (hv : 0 ≤ v ∧ v < 4294967296) (hn : n = 1 ∨ n = 2 ∨ n = 4) : be (stTo m a n v n) a n = v % 256 ^ n := by
  rcases hn with rfl | rfl | rfl
  · simp [be, stTo, sb]
  · simp [be, stTo, sb]; omega
  · simp [be, stTo, sb]; omega
/-- a word that the store does not reach -/
theorem be_other {m : Nat → Int} {a n i : Nat} {v : Int} (hn : n = 1 ∨ n = 2 ∨ n = 4) (ha : a % n = 0) (hi : i ≠ a / 4) : be (stTo m a n v n) (4 * i) 4 = be m (4 * i) 4 := by
  refine be_congr 4 fun k hk => ?_
  unfold stTo
  rw [if_neg]
  rcases hn with rfl | rfl | rfl <;> omega
theorem stTo_rng {m : Nat → Int} {a n j : Nat} {v : Int} {k : Nat} (h : 0 ≤ m k ∧ m k < 256) : 0 ≤ stTo m a n v j k ∧ stTo m a n v j k < 256 := by
  unfold stTo sb
  split
  · exact ⟨Int.emod_nonneg _ (by decide), Int.emod_lt_of_pos _ (by decide)⟩
  · exact h
theorem bw_rng {m : Nat → Int} (h : ∀ i, i < 16384 → 0 ≤ m i ∧ m i < 256) {k : Nat} (hk : k < 4096) : 0 ≤ be m (4 * k) 4 ∧ be m (4 * k) 4 < 4294967296 := be_rng m (4 * k) 4 (fun i hi => h _ (by omega))

end Go.Proofs.YtlbdkcnbgdmpaaaGreatDoor

/- BusDev -/
/- The walks of bus.device, bus.New and (*Bus).Load. -/
namespace Go.Proofs.YtlbdkcnbgdmpaaaGreatDoor
open Go.RowKit Go.Deep
set_option linter.unusedVariables false

/-- the number of what 'device' answers -/
def devC (a n : Int) : Nat := if n ≠ 1 ∧ n ≠ 2 ∧ n ≠ 4 then 3 else if a % n ≠ 0 then 9 else if n ≠ 4 ∨ a < 65536 ∨ 65548 < a then 10 else 0
theorem devC_ok {a n : Int} (h : devC a n = 0) : n = 4 ∧ a % 4 = 0 ∧ 65536 ≤ a ∧ a ≤ 65548 := by
  unfold devC at h
  split at h
  · cases h
  · split at h
    · cases h
    · split at h
      · cases h
      · have : n = 4 := by omega
        subst this
        omega

set_option maxHeartbeats 400000 in
theorem device_ok (a n : Int) (w : World) (ha : 0 ≤ a ∧ a < 4294967296) (h : devC a n = 0) :
    Calls Tryz.prog 90 #[.int .u32 a, .int .i64 n] w fun e w' => e = .returned .nilIface ∧ w = w' := by
  obtain ⟨rfl, h1, h2, h3⟩ := devC_ok h
  clear h
  have t1 : ¬ a < 65536 := by omega
  have t2 : ¬ 65548 < a := by omega
  go_enter Tryz.func90, Tryz.ntmps90
  go_wp2
  go_ret
  exact ⟨rfl, rfl⟩
set_option maxHeartbeats 400000 in
theorem device_bad (a n : Int) (w : World) (ea : Nat → Addr) (E : Errs3 w ea) (ha : 0 ≤ a ∧ a < 4294967296) (h : devC a n ≠ 0) :
    Calls Tryz.prog 90 #[.int .u32 a, .int .i64 n] w fun e w' => e = .returned (errV ea (devC a n)) ∧ w = w' := by
  obtain ⟨e1, e2, e3⟩ := E
  by_cases hn : n ≠ 1 ∧ n ≠ 2 ∧ n ≠ 4
  · have hr : devC a n = 3 := by rw [devC, if_pos hn]
    rw [hr]
    have n1 : (n != 1) = true := by simpa using hn.1
    have n2 : (n != 2) = true := by simpa using hn.2.1
    have n4 : (n != 4) = true := by simpa using hn.2.2
    clear hn
    go_enter Tryz.func90, Tryz.ntmps90
    go_wp2
    go_ret
    exact ⟨rfl, rfl⟩
  · have hn' : n = 1 ∨ n = 2 ∨ n = 4 := by omega
    by_cases hm : a % n = 0
    · have hf : n ≠ 4 ∨ a < 65536 ∨ 65548 < a := by
        apply Classical.byContradiction
        intro hc
        exact h (by rw [devC, if_neg hn, if_neg (by omega), if_neg hc])
      have hr : devC a n = 10 := by rw [devC, if_neg hn, if_neg (by omega), if_pos hf]
      rw [hr]
      clear hn hr h
      rcases hn' with rfl | rfl | rfl
      · go_enter Tryz.func90, Tryz.ntmps90
        go_wp2
        go_ret
        exact ⟨rfl, rfl⟩
      · go_enter Tryz.func90, Tryz.ntmps90
        go_wp2
        go_ret
        exact ⟨rfl, rfl⟩
      · by_cases t1 : a < 65536
        · clear hf
          go_enter Tryz.func90, Tryz.ntmps90
          go_wp2
          go_ret
          exact ⟨rfl, rfl⟩
        · have t2 : 65548 < a := by omega
          clear hf
          go_enter Tryz.func90, Tryz.ntmps90
          go_wp2
          go_ret
          exact ⟨rfl, rfl⟩
    · have hr : devC a n = 9 := by rw [devC, if_neg hn, if_pos hm]
      rw [hr]
      clear hn hr h
      rcases hn' with rfl | rfl | rfl
      · exfalso; omega
      all_goals
        go_enter Tryz.func90, Tryz.ntmps90
        go_wp2
        go_ret
        exact ⟨rfl, rfl⟩

/-- what New leaves: a Ram and a box -/
structure BusNew (w w' : World) (ws : Nat → Int) (n : Nat) (b r pb pw ph : Nat) : Prop where
  bus : BusAt w' b r (.slice none 0 0) 0 [] 0 (.slice none 0 0) 0 []
  ram : RamAt w' r pb pw ph 16384 (ramOf n ws)
  watch : w'.heap[pw]? = some (.map #[] 0)
  hits : w'.heap[ph]? = some (.map #[] 0)
  new : w.heap.size ≤ r ∧ w.heap.size ≤ pb ∧ w.heap.size ≤ pw ∧ w.heap.size ≤ ph ∧ w.heap.size ≤ b
  apart : b ≠ r ∧ b ≠ pb ∧ b ≠ pw ∧ b ≠ ph
  keeps : Keeps (fun _ => False) w w'
set_option maxRecDepth 100000 in
set_option maxHeartbeats 1000000 in
theorem busNew_any (len cap : Nat) (A : Option Addr) (w : World) (ws : Nat → Int) (hR : Reads w A len cap (fun i => .int .u32 (ws i))) (hc : cap ≤ 9223372036854775807) (hr : ∀ i, i < len → 0 ≤ ws i ∧ ws i < 4294967296) :
    Calls Tryz.prog 6 #[.slice A len cap] w fun e w' => ∃ b r pb pw ph, e = .returned (.pointer (some ⟨b, 0, none⟩)) ∧ BusNew w w' ws (min len 4096) b r pb pw ph := by
  go_enter Tryz.func6, Tryz.ntmps6
  go_wp2_with fail
  refine (new_any len cap A w ws hR hc hr).mono ?_
  rintro e w2 ⟨rfl, hN⟩
  have hsz := hN.size
  have hap := hN.ram.apart
  go_wp2_with fail
  go_ret
  refine ⟨w2.heap.size, w.heap.size + 3, w.heap.size, w.heap.size + 1, w.heap.size + 2, rfl, ?_⟩
  have ka := (Keeps.refl (fun _ => False) w2).alloc (.cells #[.pointer (some ⟨w.heap.size + 3, 0, none⟩), .slice none 0 0, .int .u32 0, .slice none 0 0] 52)
  exact ⟨⟨blk_alloc_new _ _, World.ownsRow_nil _ _ _ _, World.ownsRow_nil _ _ _ _, by omega, by simp [Value.ownBlock], by simp [Value.ownBlock], .inl rfl⟩, hN.ram.keep ka (fun h => h) (fun h => h), ka.map hN.watch (fun h => h), ka.map hN.hits (fun h => h), by omega, by omega, hN.keeps.trans ka (fun _ _ h => h)⟩
end Go.Proofs.YtlbdkcnbgdmpaaaGreatDoor

/- BusLoad -/
/- The walk of (*Bus).Load. -/
namespace Go.Proofs.YtlbdkcnbgdmpaaaGreatDoor
open Go.RowKit Go.Deep
set_option linter.unusedVariables false

set_option maxRecDepth 100000 in
set_option maxHeartbeats 1000000 in
theorem bload_ok (b r pb pw ph cp : Nat) (m : Nat → Int) (a n c : Int) (s : Bool) (w : World) (hb : w.cell? ⟨b, 0, none⟩ = some (.pointer (some ⟨r, 0, none⟩))) (R : RamAt w r pb pw ph cp m) (h0 : 0 ≤ a ∧ a < 4294967296) (h : rightC a n = 0) :
    Calls Tryz.prog 74 #[.pointer (some ⟨b, 0, none⟩), .int .u32 a, .int .i64 n, .bool s, .int .i64 c] w fun e w' => e = .returned (.tuple #[.int .u32 (Wd.wide (be m a.toNat n.toNat) (8 * n) s), .nilIface]) ∧ w = w' := by
  have hlt := (rightC_ok h).2.2
  go_enter Tryz.func74, Tryz.ntmps74
  go_wp2_with fail
  refine (load_okI _ _ _ _ _ m a n s _ R h0.1 h).mono ?_
  rintro e w' ⟨rfl, rfl⟩
  go_wp2_with fail
  go_ret2
  exact ⟨rfl, rfl⟩
set_option maxRecDepth 100000 in
set_option maxHeartbeats 1000000 in
theorem bload_bad (b r : Nat) (a n c : Int) (s : Bool) (w : World) (ea : Nat → Addr) (E : Errs3 w ea) (hb : w.cell? ⟨b, 0, none⟩ = some (.pointer (some ⟨r, 0, none⟩))) (h0 : 0 ≤ a ∧ a < 4294967296) (hlt : a < 16384) (h : rightC a n ≠ 0) :
    Calls Tryz.prog 74 #[.pointer (some ⟨b, 0, none⟩), .int .u32 a, .int .i64 n, .bool s, .int .i64 c] w fun e w' => e = .returned (.tuple #[.int .u32 0, errV ea (rightC a n)]) ∧ w = w' := by
  go_enter Tryz.func74, Tryz.ntmps74
  go_wp2_with fail
  refine (load_bad _ a n s _ ea E h0 h).mono ?_
  rintro e w' ⟨rfl, rfl⟩
  unfold errV
  go_wp2_with fail
  go_ret2
  exact ⟨rfl, rfl⟩
set_option maxHeartbeats 1000000 in
theorem bload_dbad (b : Nat) (a n c : Int) (s : Bool) (w : World) (ea : Nat → Addr) (E : Errs3 w ea) (h0 : 0 ≤ a ∧ a < 4294967296) (hlt : ¬ a < 16384) (h : devC a n ≠ 0) :
    Calls Tryz.prog 74 #[.pointer (some ⟨b, 0, none⟩), .int .u32 a, .int .i64 n, .bool s, .int .i64 c] w fun e w' => e = .returned (.tuple #[.int .u32 0, errV ea (devC a n)]) ∧ w = w' := by
  go_enter Tryz.func74, Tryz.ntmps74
  go_wp2_with fail
  refine (device_bad a n _ ea E h0 h).mono ?_
  rintro e w' ⟨rfl, rfl⟩
  unfold errV
  go_wp2_with fail
  go_ret2
  exact ⟨rfl, rfl⟩

/-- what a device answers -/
def devV (a c lamp : Int) : Int := if a = 65540 then c % 4294967296 else if a = 65544 then lamp else 0
set_option maxHeartbeats 1000000 in
theorem bload_dev (b r : Nat) (ov : Value) (on : Nat) (ob : List Value) (lamp : Int) (tv : Value) (tn : Nat) (tb : List Value) (a n c : Int) (s : Bool) (w : World) (B : BusAt w b r ov on ob lamp tv tn tb) (hn : tn < 1000000) (h0 : 0 ≤ a ∧ a < 4294967296) (h : devC a n = 0) :
    Calls Tryz.prog 74 #[.pointer (some ⟨b, 0, none⟩), .int .u32 a, .int .i64 n, .bool s, .int .i64 c] w fun e w' => e = .returned (.tuple #[.int .u32 (devV a c lamp), .nilIface]) ∧
      ∃ tv', BusAt w' b r ov on ob lamp tv' (tn + 1) (tb ++ accC c false a (devV a c lamp)) ∧ Moved w tv tv' ∧ Keeps (fun k => k = b ∨ tv.ownBlock = some k) w w' := by
  obtain ⟨rfl, h1, h2, h3⟩ := devC_ok h
  have hlt : ¬ a < 16384 := by omega
  have hl : w.cell? ⟨b, 2, none⟩ = some (.int .u32 lamp) := by simp [World.cell?, B.box]
  have hwc : IntKind.u32.wrap c = c % 4294967296 := rfl
  by_cases t1 : a = 65540
  · have hv : devV a c lamp = c % 4294967296 := by rw [devV, if_pos t1]
    rw [hv]
    subst t1
    go_enter Tryz.func74, Tryz.ntmps74
    go_wp2_with fail
    refine (device_ok _ _ _ (by omega) h).mono ?_
    rintro e w' ⟨rfl, rfl⟩
    go_wp2_with fail
    refine (told_any b r ov on ob lamp tv tn tb c false _ _ _ B hn).mono ?_
    rintro e w' ⟨rfl, hT⟩
    go_wp2_with fail
    go_ret2
    exact ⟨rfl, hT⟩
  · have t1' : (a == 65540) = false := by simpa using t1
    by_cases t2 : a = 65544
    · have hv : devV a c lamp = lamp := by rw [devV, if_neg t1, if_pos t2]
      rw [hv]
      subst t2
      go_enter Tryz.func74, Tryz.ntmps74
      go_wp2_with fail
      refine (device_ok _ _ _ (by omega) h).mono ?_
      rintro e w' ⟨rfl, rfl⟩
      go_wp2_with fail
      refine (told_any b r ov on ob lamp tv tn tb c false _ _ _ B hn).mono ?_
      rintro e w' ⟨rfl, hT⟩
      go_wp2_with fail
      go_ret2
      exact ⟨rfl, hT⟩
    · have t2' : (a == 65544) = false := by simpa using t2
      have hv : devV a c lamp = 0 := by rw [devV, if_neg t1, if_neg t2]
      rw [hv]
      go_enter Tryz.func74, Tryz.ntmps74
      go_wp2_with fail
      refine (device_ok _ _ _ (by omega) h).mono ?_
      rintro e w' ⟨rfl, rfl⟩
      go_wp2_with fail
      refine (told_any b r ov on ob lamp tv tn tb c false _ _ _ B hn).mono ?_
      rintro e w' ⟨rfl, hT⟩
      go_wp2_with fail
      go_ret2
      exact ⟨rfl, hT⟩
end Go.Proofs.YtlbdkcnbgdmpaaaGreatDoor

/- BusStore -/
/- The walk of (*Bus).Store. -/
namespace Go.Proofs.YtlbdkcnbgdmpaaaGreatDoor
open Go.RowKit Go.Deep
set_option linter.unusedVariables false

set_option maxRecDepth 100000 in
set_option maxHeartbeats 1000000 in
theorem bstore_ok (b r pb pw ph cp c0 : Nat) (m : Nat → Int) (a n v c : Int) (w : World) (hb : w.cell? ⟨b, 0, none⟩ = some (.pointer (some ⟨r, 0, none⟩))) (R : RamAt w r pb pw ph cp m) (hw : w.heap[pw]? = some (.map #[] c0)) (h0 : 0 ≤ a ∧ a < 4294967296) (hv : 0 ≤ v ∧ v < 4294967296) (h : rightC a n = 0) :
    Calls Tryz.prog 75 #[.pointer (some ⟨b, 0, none⟩), .int .u32 a, .int .i64 n, .int .u32 v, .int .i64 c] w fun e w' => e = .returned .nilIface ∧ RamAt w' r pb pw ph cp (stTo m a.toNat n.toNat v n.toNat) ∧ Keeps (· = pb) w w' := by
  have hlt := (rightC_ok h).2.2
  go_enter Tryz.func75, Tryz.ntmps75
  go_wp2_with fail
  refine (store_empty _ _ _ _ _ _ m a n v _ R hw h0.1 hv h).mono ?_
  rintro e w' ⟨rfl, hT⟩
  go_wp2_with fail
  go_ret
  exact ⟨rfl, hT⟩
set_option maxHeartbeats 1000000 in
theorem bstore_bad (b r : Nat) (a n v c : Int) (w : World) (ea : Nat → Addr) (E : Errs3 w ea) (hb : w.cell? ⟨b, 0, none⟩ = some (.pointer (some ⟨r, 0, none⟩))) (h0 : 0 ≤ a ∧ a < 4294967296) (hlt : a < 16384) (h : rightC a n ≠ 0) :
    Calls Tryz.prog 75 #[.pointer (some ⟨b, 0, none⟩), .int .u32 a, .int .i64 n, .int .u32 v, .int .i64 c] w fun e w' => e = .returned (errV ea (rightC a n)) ∧ w = w' := by
  go_enter Tryz.func75, Tryz.ntmps75
  go_wp2_with fail
  refine (store_bad _ a n v _ ea E h0 h).mono ?_
  rintro e w' ⟨rfl, rfl⟩
  unfold errV
  go_wp2_with fail
  go_ret
  exact ⟨rfl, rfl⟩
set_option maxHeartbeats 1000000 in
theorem bstore_dbad (b : Nat) (a n v c : Int) (w : World) (ea : Nat → Addr) (E : Errs3 w ea) (h0 : 0 ≤ a ∧ a < 4294967296) (hlt : ¬ a < 16384) (h : devC a n ≠ 0) :
    Calls Tryz.prog 75 #[.pointer (some ⟨b, 0, none⟩), .int .u32 a, .int .i64 n, .int .u32 v, .int .i64 c] w fun e w' => e = .returned (errV ea (devC a n)) ∧ w = w' := by
  go_enter Tryz.func75, Tryz.ntmps75
  go_wp2_with fail
  refine (device_bad a n _ ea E h0 h).mono ?_
  rintro e w' ⟨rfl, rfl⟩
  unfold errV
  go_wp2_with fail
  go_ret
  exact ⟨rfl, rfl⟩

/-- the blocks that a bus may write -/
def busS (b : Nat) (ov tv : Value) (k : Nat) : Prop := k = b ∨ ov.ownBlock = some k ∨ tv.ownBlock = some k
theorem out_end {w w1 : World} {b r : Nat} {ov ov' : Value} {on : Nat} {ob xs : List Value} {lamp : Int} {tv : Value} {tn : Nat} {tb : List Value} (B : BusAt w b r ov on ob lamp tv tn tb)
    (hk : Keeps (fun k => ov.ownBlock = some k) w w1) (hown : w1.ownsRow 0 5 1 ov' (on + 1) xs) (hmv : Moved w ov ov') :
    BusAt (w1.setCell ⟨b, 1, none⟩ ov') b r ov' (on + 1) xs lamp tv tn tb ∧ Moved w ov ov' ∧ Keeps (fun k => k = b ∨ ov.ownBlock = some k) w (w1.setCell ⟨b, 1, none⟩ ov') := by
  have hbl : b < w.heap.size := (Array.getElem?_eq_some_iff.1 B.box).1
  have hb1 := (hk.block b hbl B.ob).trans B.box
  have hst := Keeps.one w1 b 1 ov'
  have htb := hmv.ne hbl B.ob
  have hkk : Keeps (fun k => k = b ∨ ov.ownBlock = some k) w (w1.setCell ⟨b, 1, none⟩ ov') := Keeps.trans (hk.mono (fun k _ h => Or.inr h)) hst (fun k _ h => Or.inl h)
  have hot : ∀ g, tv.ownBlock = some g → ¬ (g = b ∨ ov.ownBlock = some g) := by
    intro g hg h
    rcases h with rfl | h
    · exact B.tb hg
    · rcases B.ot with h0 | h0
      · rw [h0] at h; cases h
      · exact h0 (h.trans hg.symm)
  refine ⟨⟨set_block hb1 1 ov', owns_keep hown hst (fun g hg e => htb (e ▸ hg)), owns_keep B.tr hkk hot, B.rng, htb, B.tb, ?_⟩, hmv, hkk⟩
  cases hov : tv.ownBlock with
  | none =>
    cases ov'.ownBlock with
    | none => exact .inl rfl
    | some g => exact .inr (fun h => by cases h)
  | some g =>
    refine .inr fun e => ?_
    rcases hmv with h | h
    · exact hot g hov (.inr (h ▸ e))
    · have := owns_lt B.tr hov
      have := h g e
      omega
theorem BusAt.lamp {w : World} {b r : Nat} {ov : Value} {on : Nat} {ob : List Value} {lamp : Int} {tv : Value} {tn : Nat} {tb : List Value} (B : BusAt w b r ov on ob lamp tv tn tb) (v : Int) (hv : 0 ≤ v ∧ v < 4294967296) :
    BusAt (w.setCell ⟨b, 2, none⟩ (.int .u32 v)) b r ov on ob v tv tn tb :=
  ⟨set_block B.box 2 _, owns_keep B.out (Keeps.one w b 2 _) (fun g hg e => B.ob (e ▸ hg)), owns_keep B.tr (Keeps.one w b 2 _) (fun g hg e => B.tb (e ▸ hg)), hv, B.ob, B.tb, B.ot⟩

/-- what a store to a device leaves -/
def Stored (w w' : World) (b r : Nat) (ov : Value) (on : Nat) (ob : List Value) (lamp : Int) (tv : Value) (tn : Nat) (tb : List Value) : Prop :=
  ∃ ov' tv', BusAt w' b r ov' on ob lamp tv' tn tb ∧ Moved w ov ov' ∧ Moved w tv tv' ∧ Keeps (busS b ov tv) w w'
set_option maxRecDepth 100000 in
set_option maxHeartbeats 2000000 in
theorem bstore_con (b r : Nat) (ov : Value) (on : Nat) (ob : List Value) (lamp : Int) (tv : Value) (tn : Nat) (tb : List Value) (v c : Int) (w : World) (B : BusAt w b r ov on ob lamp tv tn tb) (ho : on < 1000000) (hn : tn < 1000000) (hv : 0 ≤ v ∧ v < 4294967296) :
    Calls Tryz.prog 75 #[.pointer (some ⟨b, 0, none⟩), .int .u32 65536, .int .i64 4, .int .u32 v, .int .i64 c] w fun e w' => e = .returned .nilIface ∧
      Stored w w' b r ov (on + 1) (ob ++ [.int .u8 (v % 256)]) lamp tv (tn + 1) (tb ++ accC c true 65536 v) := by
  obtain ⟨i0, hi, hz0, hz1, hz2⟩ := info_parts Tryz.info_byte
  have hwv : IntKind.u8.wrap v = v % 256 := rfl
  have hc1 : w.cell? ⟨b, 1, none⟩ = some ov := by simp [World.cell?, B.box]
  have hcn : ∀ j u, [Value.int .u8 (v % 256)][j]? = some u → (w.alloc (.cells #[.int .u8 (v % 256)] 5)).cell? ((⟨w.heap.size, 0, none⟩ : Addr).add j) = some u := fun j u h => cells_new w _ _ j u h
  have hmx : on + 1 ≤ maxLen := by unfold maxLen; omega
  go_enter Tryz.func75, Tryz.ntmps75
  go_wp2_with fail
  refine (device_ok 65536 4 _ (by omega) (by decide)).mono ?_
  rintro e w' ⟨rfl, rfl⟩
  go_wp2_with (at_builtin; refine wpList_append_mine rfl (.tmp 35) (.tmp 38) 50 rfl 0 5 i0 _ 1 1 Tryz.underlying50 hi hz0 hz1 hz2 rfl (by decide) ov on ob rfl (B.out.alloc _) ⟨w.heap.size, 0, none⟩ 1 1 [.int .u8 (v % 256)] rfl rfl hcn (by simp [Value.oneCell']) hmx (by omega) (Nat.zero_le _) ?_; intro ov' w1 hown hgr hmv; obtain ⟨A', cap', rfl⟩ := owns_slice hown; have hk2 : Keeps (fun k => ov.ownBlock = some k) w w1 := ((Keeps.refl _ w).alloc _).grown hgr (fun k hk _ => hk); have hb2 := (hk2.block b (Array.getElem?_eq_some_iff.1 B.box).1 (fun h => B.ob h)).trans B.box; have hc2 : w1.cell? ⟨b, 1, none⟩ = some ov := (by simp [World.cell?, hb2]); have hf2 := frozen_of_block hb2 1)
  obtain ⟨B2, hm2, hkk⟩ := out_end B hk2 hown (hmv.of_le (Keeps.size ((Keeps.refl (fun _ => False) w).alloc _)))
  refine (told_any b r _ _ _ lamp tv tn tb c true _ _ _ B2 hn).mono ?_
  rintro e w' ⟨rfl, tv', B3, hm3, hk3⟩
  go_wp2_with fail
  go_ret
  refine ⟨rfl, _, tv', B3, hm2, hm3.of_le hkk.size, Keeps.trans (hkk.mono (fun k _ h => ?_)) hk3 (fun k _ h => ?_)⟩
  · rcases h with h | h
    · exact .inl h
    · exact .inr (.inl h)
  · rcases h with h | h
    · exact .inl h
    · exact .inr (.inr h)
set_option maxRecDepth 100000 in
set_option maxHeartbeats 2000000 in
theorem bstore_lamp (b r : Nat) (ov : Value) (on : Nat) (ob : List Value) (lamp : Int) (tv : Value) (tn : Nat) (tb : List Value) (v c : Int) (w : World) (B : BusAt w b r ov on ob lamp tv tn tb) (hn : tn < 1000000) (hv : 0 ≤ v ∧ v < 4294967296) :
    Calls Tryz.prog 75 #[.pointer (some ⟨b, 0, none⟩), .int .u32 65544, .int .i64 4, .int .u32 v, .int .i64 c] w fun e w' => e = .returned .nilIface ∧
      Stored w w' b r ov on ob v tv (tn + 1) (tb ++ accC c true 65544 v) := by
  have hc2 : w.cell? ⟨b, 2, none⟩ = some (.int .u32 lamp) := by simp [World.cell?, B.box]
  have hf2 := frozen_of_block B.box 2
  have B2 := B.lamp v hv
  have hkk := Keeps.one w b 2 (.int .u32 v)
  go_enter Tryz.func75, Tryz.ntmps75
  go_wp2_with fail
  refine (device_ok 65544 4 _ (by omega) (by decide)).mono ?_
  rintro e w' ⟨rfl, rfl⟩
  go_wp2_with fail
  refine (told_any b r _ _ _ _ tv tn tb c true _ _ _ B2 hn).mono ?_
  rintro e w' ⟨rfl, tv', B3, hm3, hk3⟩
  go_wp2_with fail
  go_ret
  refine ⟨rfl, _, tv', B3, .inl rfl, hm3.of_le hkk.size, Keeps.trans (hkk.mono (fun k _ h => .inl h)) hk3 (fun k _ h => ?_)⟩
  rcases h with h | h
  · exact .inl h
  · exact .inr (.inr h)
set_option maxRecDepth 100000 in
set_option maxHeartbeats 2000000 in
theorem bstore_else (b r : Nat) (ov : Value) (on : Nat) (ob : List Value) (lamp : Int) (tv : Value) (tn : Nat) (tb : List Value) (a v c : Int) (w : World) (B : BusAt w b r ov on ob lamp tv tn tb) (hn : tn < 1000000) (ha : 0 ≤ a ∧ a < 4294967296) (h : devC a 4 = 0) (t1 : (a == 65536) = false) (t2 : (a == 65544) = false) :
    Calls Tryz.prog 75 #[.pointer (some ⟨b, 0, none⟩), .int .u32 a, .int .i64 4, .int .u32 v, .int .i64 c] w fun e w' => e = .returned .nilIface ∧
      Stored w w' b r ov on ob lamp tv (tn + 1) (tb ++ accC c true a v) := by
  obtain ⟨_, h1, h2, h3⟩ := devC_ok h
  have hlt : ¬ a < 16384 := by omega
  go_enter Tryz.func75, Tryz.ntmps75
  go_wp2_with fail
  refine (device_ok a 4 _ ha h).mono ?_
  rintro e w' ⟨rfl, rfl⟩
  go_wp2_with fail
  refine (told_any b r _ _ _ _ tv tn tb c true _ _ _ B hn).mono ?_
  rintro e w' ⟨rfl, tv', B3, hm3, hk3⟩
  go_wp2_with fail
  go_ret
  refine ⟨rfl, _, tv', B3, .inl rfl, hm3, hk3.mono (fun k _ h => ?_)⟩
  rcases h with h | h
  · exact .inl h
  · exact .inr (.inr h)

/-- what a store leaves of the console's output, and of the lamp -/
def outN (a : Int) (on : Nat) : Nat := if a = 65536 then on + 1 else on
def outB (a v : Int) (ob : List Value) : List Value := if a = 65536 then ob ++ [.int .u8 (v % 256)] else ob
def lampV (a v lamp : Int) : Int := if a = 65544 then v else lamp
theorem bstore_dev (b r : Nat) (ov : Value) (on : Nat) (ob : List Value) (lamp : Int) (tv : Value) (tn : Nat) (tb : List Value) (a n v c : Int) (w : World) (B : BusAt w b r ov on ob lamp tv tn tb) (ho : on < 1000000) (hn : tn < 1000000) (ha : 0 ≤ a ∧ a < 4294967296) (hv : 0 ≤ v ∧ v < 4294967296) (h : devC a n = 0) :
    Calls Tryz.prog 75 #[.pointer (some ⟨b, 0, none⟩), .int .u32 a, .int .i64 n, .int .u32 v, .int .i64 c] w fun e w' => e = .returned .nilIface ∧
      Stored w w' b r ov (outN a on) (outB a v ob) (lampV a v lamp) tv (tn + 1) (tb ++ accC c true a v) := by
  obtain ⟨rfl, h1, h2, h3⟩ := devC_ok h
  by_cases t1 : a = 65536
  · subst t1
    exact bstore_con b r ov on ob lamp tv tn tb v c w B ho hn hv
  · by_cases t2 : a = 65544
    · subst t2
      exact bstore_lamp b r ov on ob lamp tv tn tb v c w B hn hv
    · rw [outN, outB, lampV, if_neg t1, if_neg t1, if_neg t2]
      exact bstore_else b r ov on ob lamp tv tn tb a v c w B hn ha h (by simpa using t1) (by simpa using t2)
end Go.Proofs.YtlbdkcnbgdmpaaaGreatDoor

/- BusView -/
/- The walks of (*Bus).Output, Lamp, Ram, Trace, and of bused. -/
namespace Go.Proofs.YtlbdkcnbgdmpaaaGreatDoor
open Go.RowKit Go.Deep
set_option linter.unusedVariables false

/-- bytes as cells -/
def byteVals (l : List UInt8) : List Value := l.map fun b => .int .u8 (b.toNat : Int)
theorem byteVals_add (l : List UInt8) (v : Int) : byteVals l ++ [.int .u8 (v % 256)] = byteVals (l ++ [UInt8.ofNat (v % 256).toNat]) := by
  have h : (((v % 256).toNat % 256 : Nat) : Int) = v % 256 := by omega
  simp [byteVals, h]

set_option maxHeartbeats 1000000 in
theorem output_any (b r : Nat) (ov : Value) (on : Nat) (l : List UInt8) (lamp : Int) (tv : Value) (tn : Nat) (tb : List Value) (w : World) (B : BusAt w b r ov on (byteVals l) lamp tv tn tb) :
    Calls Tryz.prog 26 #[.pointer (some ⟨b, 0, none⟩)] w fun e w' => e = .returned (.string ⟨l.toArray⟩) ∧ w = w' := by
  have hc1 : w.cell? ⟨b, 1, none⟩ = some ov := by simp [World.cell?, B.box]
  have hl : on = l.length := by simpa [byteVals] using B.out.1.symm
  subst hl
  have hcv : (convert 50 9 ov).run Tryz.prog w = .ok (.string ⟨l.toArray⟩) w := by
    have hct := fun g j u => World.ownsRow.cells B.out (g := g) (j := j) (u := u)
    rcases B.out.2 with ⟨h1, h2⟩ | ⟨g, cap, cur, h1, _⟩
    · have : l = [] := List.eq_nil_of_length_eq_zero h2
      subst this
      rw [h1, run_convert_bytes_string w 50 9 5 none 0 0 Tryz.underlying50 Tryz.underlying5 Tryz.underlying9]
      simp only [Conv.bytesToString, Sem.run_pure]
      rfl
    · rw [h1]
      refine run_convert_bytes_back w 50 9 5 ⟨g, 0, none⟩ cap l Tryz.underlying50 Tryz.underlying5 Tryz.underlying9 fun j hj => ?_
      exact hct g j _ (by rw [h1]; rfl) (by simp [byteVals, hj])
  obtain ⟨A', cap', rfl⟩ := owns_slice B.out
  go_enter Tryz.func26, Tryz.ntmps26
  go_wp2_with fail
  go_ret
  exact ⟨rfl, rfl⟩
theorem lamp_any (b r : Nat) (ov : Value) (on : Nat) (ob : List Value) (lamp : Int) (tv : Value) (tn : Nat) (tb : List Value) (w : World) (B : BusAt w b r ov on ob lamp tv tn tb) :
    Calls Tryz.prog 27 #[.pointer (some ⟨b, 0, none⟩)] w fun e w' => e = .returned (.int .u32 lamp) ∧ w = w' := by
  have hc1 : w.cell? ⟨b, 2, none⟩ = some (.int .u32 lamp) := by simp [World.cell?, B.box]
  go_enter Tryz.func27, Tryz.ntmps27
  go_wp2_with fail
  go_ret
  exact ⟨rfl, rfl⟩
theorem ramOf_any (b r : Nat) (w : World) (hb : w.cell? ⟨b, 0, none⟩ = some (.pointer (some ⟨r, 0, none⟩))) :
    Calls Tryz.prog 8 #[.pointer (some ⟨b, 0, none⟩)] w fun e w' => e = .returned (.pointer (some ⟨r, 0, none⟩)) ∧ w = w' := by
  go_enter Tryz.func8, Tryz.ntmps8
  go_wp2_with fail
  go_ret
  exact ⟨rfl, rfl⟩

/-- every cell of a row is one cell -/
def oneCells (tb : List Value) : Prop := ∀ u ∈ tb, u.oneCell' = true
theorem oneCells.add {tb : List Value} (h : oneCells tb) (c : Int) (s : Bool) (a v : Int) : oneCells (tb ++ accC c s a v) := by
  intro u hu
  rcases List.mem_append.1 hu with h1 | h1
  · exact h u h1
  · simp [accC] at h1
    rcases h1 with rfl | rfl | rfl | rfl <;> rfl
set_option maxRecDepth 100000 in
set_option maxHeartbeats 2000000 in
theorem traceClone_any (tv : Value) (tn : Nat) (tb : List Value) (w : World) (ho : w.ownsRow 0 93 4 tv tn tb) (hn : tn < 1000000) (h1 : oneCells tb) :
    Calls Tryz.prog 45 #[tv] w fun e w' => ∃ v', e = .returned v' ∧ w'.ownsRow w.heap.size 93 4 v' tn tb ∧ Keeps (fun _ => False) w w' := by
  obtain ⟨i0, hi, hz0, hz1, hz2⟩ := info_parts Tryz.info_acc
  have hct := fun g j u => World.ownsRow.cells ho (g := g) (j := j) (u := u)
  have hlen := ho.1
  rcases ho.2 with ⟨h3, h4⟩ | ⟨g, cp, cur, h3, _⟩
  · subst h3; subst h4
    have : tb = [] := List.eq_nil_of_length_eq_zero (by simpa using ho.1)
    subst this
    have hq := fun w => Lib.run_eql_slice_nil (P := Tryz.prog) w 37 93 none 0 0 0 0 Tryz.underlying37
    go_enter Tryz.func45, Tryz.ntmps45
    go_wp2_with fail
    go_ret
    exact ⟨_, rfl, World.ownsRow_nil _ _ _ _, Keeps.refl _ _⟩
  · subst h3
    have hq := fun w => Lib.run_eql_slice_nil (P := Tryz.prog) w 37 93 (some ⟨g, 0, none⟩) tn cp 0 0 Tryz.underlying37
    have HN := Lib.hid (show ∀ j u, tb[j]? = some u → (w.alloc (.cells #[] 93)).cell? ((⟨g, 0, none⟩ : Addr).add j) = some u from fun j u hu => by
      have := hct g j u rfl hu
      rw [Addr.add_lit] at this ⊢
      exact cell_alloc this _)
    have hmx : 0 + tn ≤ maxLen := by unfold maxLen; omega
    go_enter Tryz.func45, Tryz.ntmps45
    go_wp2_with (at_builtin; go_loud (refine wpList_append_own _ rfl _ _ 37 rfl w.heap.size 93 i0 _ 4 24 Tryz.underlying37 hi hz0 hz1 hz2 rfl (by decide) (.slice (some ⟨w.heap.size, 0, none⟩) 0 0) 0 [] rfl ?c0 ⟨g, 0, none⟩ tn cp tb rfl hlen HN.out h1 hmx (by omega) ?c5 ?c6))
    case c0 => exact ⟨rfl, .inr ⟨w.heap.size, 0, #[], rfl, Nat.le_refl _, blk_alloc_new _ _, Nat.le_refl _, Nat.zero_le _, rfl, rfl⟩⟩
    case c5 => simp
    case c6 =>
      intro v' w1 hown hgrow hnil
      obtain ⟨A', cap', rfl⟩ := owns_slice hown
      have hK : Keeps (fun _ => False) w w1 := ((Keeps.refl _ w).alloc (.cells #[] 93)).grown hgrow (fun k hk => by simp [Value.ownBlock] at hk; omega)
      go_wp2
      go_ret
      exact ⟨_, rfl, hown, hK⟩
theorem trace_any (b r : Nat) (ov : Value) (on : Nat) (ob : List Value) (lamp : Int) (tv : Value) (tn : Nat) (tb : List Value) (w : World) (B : BusAt w b r ov on ob lamp tv tn tb) (hn : tn < 1000000) (h1 : oneCells tb) :
    Calls Tryz.prog 29 #[.pointer (some ⟨b, 0, none⟩)] w fun e w' => ∃ v', e = .returned v' ∧ w'.ownsRow w.heap.size 93 4 v' tn tb ∧ Keeps (fun _ => False) w w' := by
  have hc1 : w.cell? ⟨b, 3, none⟩ = some tv := by simp [World.cell?, B.box]
  obtain ⟨A', cap', rfl⟩ := owns_slice B.tr
  go_enter Tryz.func29, Tryz.ntmps29
  go_wp2_with fail
  refine (traceClone_any _ tn tb _ B.tr hn h1).mono ?_
  rintro e w' ⟨v', rfl, ho, hk⟩
  obtain ⟨A2, cap2, rfl⟩ := owns_slice ho
  go_wp2_with fail
  go_ret
  exact ⟨_, rfl, ho, hk⟩
end Go.Proofs.YtlbdkcnbgdmpaaaGreatDoor
