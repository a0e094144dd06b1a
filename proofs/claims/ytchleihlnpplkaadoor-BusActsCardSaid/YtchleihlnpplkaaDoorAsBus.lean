/- The walks of coded, sameTrace, asBus, Copy of a bus; new buses. -/
import Derived.Test.YtchleihlnpplkaaDoorInv
import Derived.Test.YtchleihlnpplkaaDoorAlike
import Derived.Test.YtchleihlnpplkaaDoorBused
namespace Go.Proofs.YtchleihlnpplkaaDoor
open Go.RowKit Go.Deep
set_option linter.unusedVariables false

theorem coded_any (c : Nat) (hc : c ≤ 10) (w : World) (ea : Nat → Addr) (E : ErrsAll w ea) :
    Calls Tryd.prog 23 #[errOf ea c, .int .i64 c] w fun e w' => e = .returned (.bool true) ∧ Keeps (fun _ => False) w w' := by
  by_cases h0 : c = 0
  · subst h0
    show Calls _ _ #[.nilIface, .int .i64 0] w _
    go_enter Tryd.func23, Tryd.ntmps23
    go_wp2_with fail
    refine (code_nil _).mono ?_
    rintro e w' ⟨rfl, rfl⟩
    go_wp2_with fail
    go_ret
    exact ⟨rfl, Keeps.refl _ _⟩
  · rw [errOf_ne h0]
    have h1 : 1 ≤ c := by omega
    have HE := Lib.hid E
    clear h0 E
    unfold errV
    go_enter Tryd.func23, Tryd.ntmps23
    go_wp2_with fail
    refine (code_sent c h1 hc _ ea HE.out).mono ?_
    rintro e w' ⟨rfl, hk⟩
    go_wp2_with fail
    go_ret
    exact ⟨rfl, hk⟩

/-- a slice of accesses as it lies -/
def TrAt (w : World) (A : Option Addr) (n cap : Nat) (tr : List Value) : Prop := n ≤ cap ∧ cap ≤ maxLen ∧ (n = 0 ∨ ∃ g, A = some ⟨g, 0, none⟩ ∧ ∀ j u, tr[j]? = some u → w.cell? ⟨g, j, none⟩ = some u)
theorem TrAt.of_owns {w : World} {base : Nat} {e : TypeId} {v : Value} {n : Nat} {xs : List Value} (h : w.ownsRow base e 4 v n xs) : ∃ A cap, v = .slice A n cap ∧ TrAt w A n cap xs := by
  by_cases h0 : n = 0
  · rcases h.2 with ⟨h1, h2⟩ | ⟨g, cap, cur, h1, h2, h3, h4, h5, _⟩
    · exact ⟨none, 0, by rw [h1, h2], by omega, by omega, .inl h0⟩
    · exact ⟨_, cap, h1, h4, h5, .inl h0⟩
  · obtain ⟨g, cap, h1, _, h3, h4, h5⟩ := owns_some h (by omega)
    exact ⟨_, cap, h1, h3, h4, .inr ⟨g, rfl, h5⟩⟩
theorem TrAt.keep {w w' : World} {A : Option Addr} {n cap : Nat} {tr : List Value} (h : TrAt w A n cap tr) (k : Keeps (fun _ => False) w w') : TrAt w' A n cap tr := by
  obtain ⟨h1, h2, h3 | ⟨g, h3, h4⟩⟩ := h
  · exact ⟨h1, h2, .inl h3⟩
  · exact ⟨h1, h2, .inr ⟨g, h3, fun j u hu => k.cell' (h4 j u hu) (fun f => f)⟩⟩

set_option maxRecDepth 100000 in
set_option maxHeartbeats 1000000 in
theorem sameTrace_same (A B : Option Addr) (n ca cb : Nat) (tr : List Value) (w : World) (h1 : TrAt w A n ca tr) (h2 : TrAt w B n cb tr) (hacc : AccRow tr n) (hn : n < 1000000) :
    Calls Tryd.prog 50 #[.slice A n ca, .slice B n cb] w fun e w' => e = .returned (.bool true) ∧ Keeps (fun _ => False) w w' := by
  have b1 := h1.1
  have b2 := h2.1
  have b3 : ca ≤ 9223372036854775807 := by have := h1.2.1; unfold maxLen at this; omega
  have b4 : cb ≤ 9223372036854775807 := by have := h2.2.1; unfold maxLen at this; omega
  have H1 := Lib.hid h1
  have H2 := Lib.hid h2
  have HA := Lib.hid hacc
  clear h1 h2 hacc
  go_enter Tryd.func50, Tryd.ntmps50
  go_wp2_with fail
  go_loopw [5] (fun s5 wr => ∃ i : Nat, i ≤ n ∧ s5 = .int .i64 i ∧ Keeps (fun _ => False) w wr) (fun s5 _ => n - (intOf s5).toNat)
  case atStart => exact ⟨0, by omega, rfl, Keeps.refl _ w⟩
  case round =>
    obtain ⟨i, hi, rfl, hK⟩ := hrel
    by_cases hlt : i < n
    · obtain ⟨c, s, a, v, e1, e2, e3, e4⟩ := HA.out.2 i hlt
      obtain ⟨ga, rfl, hca⟩ : ∃ g, A = some ⟨g, 0, none⟩ ∧ ∀ j u, tr[j]? = some u → wr.cell? ⟨g, j, none⟩ = some u := by
        obtain ⟨_, _, h3 | h3⟩ := H1.out.keep hK
        · omega
        · exact h3
      obtain ⟨gb, rfl, hcb⟩ : ∃ g, B = some ⟨g, 0, none⟩ ∧ ∀ j u, tr[j]? = some u → wr.cell? ⟨g, j, none⟩ = some u := by
        obtain ⟨_, _, h3 | h3⟩ := H2.out.keep hK
        · omega
        · exact h3
      have p1 := hca _ _ e1
      have p2 := hca _ _ e2
      have p3 := hca _ _ e3
      have p4 := hca _ _ e4
      have r1 := hcb _ _ e1
      have r2 := hcb _ _ e2
      have r3 := hcb _ _ e3
      have r4 := hcb _ _ e4
      clear hca hcb e1 e2 e3 e4
      go_wp2_with fail
      go_quiet (fail)
      go_wp2_with fail
      go_roundw
      case rel => exact ⟨i + 1, by omega, by go_num, hK.drewN _⟩
      case measure => simp [intOf]; omega
    · obtain rfl : i = n := by omega
      go_wp2_with fail
      go_ret
      exact ⟨rfl, hK⟩

/-- a new bus' state -/
def s0 (n : Nat) (ws : Nat → Int) : Sb := ⟨ramOf n ws, [], 0, 0, []⟩
theorem bus_new (len cap : Nat) (A : Option Addr) (w : World) (ws : Nat → Int) (hR : Reads w A len cap (fun i => .int .u32 (ws i))) (hc : cap ≤ 9223372036854775807) (hr : ∀ i, i < len → 0 ≤ ws i ∧ ws i < 4294967296) :
    Calls Tryd.prog 17 #[.slice A len cap] w fun e w' => ∃ b O, e = .returned (.pointer (some ⟨b, 0, none⟩)) ∧ BInv b O w' (s0 (min len 4096) ws) ∧ Keeps (fun _ => False) w w' ∧ ∀ k, O k → w.heap.size ≤ k := by
  refine (busNew_any len cap A w ws hR hc hr).mono fun e w' ⟨b, r, pb, pw, ph, he, h⟩ => ⟨b, fun k => k = b ∨ k = r ∨ k = pb ∨ k = pw ∨ k = ph, he, ⟨r, pb, pw, ph, 16384, .slice none 0 0, .slice none 0 0, ?_⟩, h.keeps, fun k hk => by have := h.new; omega⟩
  exact {
    bus := h.bus
    ram := h.ram
    watch := h.watch
    hits := h.hits
    own := by simp
    own1 := fun k hk => by cases hk
    own2 := fun k hk => by cases hk
    sep := h.apart
    lt := fun k hk => by
      have g1 := (Array.getElem?_eq_some_iff.1 h.bus.box).1
      have g2 := (Array.getElem?_eq_some_iff.1 h.ram.box).1
      have g3 := h.ram.bytes.lt
      have g4 := (Array.getElem?_eq_some_iff.1 h.watch).1
      have g5 := (Array.getElem?_eq_some_iff.1 h.hits).1
      omega
    acc := ⟨rfl, fun i hi => by cases hi⟩ }
theorem ref_new (len cap : Nat) (A : Option Addr) (w : World) (ws : Nat → Int) (hR : Reads w A len cap (fun i => .int .u32 (ws i))) (hc : cap ≤ 9223372036854775807) (hr : ∀ i, i < len → 0 ≤ ws i ∧ ws i < 4294967296) :
    Calls Tryd.prog 22 #[.slice A len cap] w fun e w' => ∃ b O, e = .returned (.pointer (some ⟨b, 0, none⟩)) ∧ RInv b O w' (s0 (min len 4096) ws) ∧ Keeps (fun _ => False) w w' ∧ ∀ k, O k → w.heap.size ≤ k := by
  refine (rbusNew_any len cap A w ws hR hc hr).mono fun e w' ⟨b, q, wb, tb, hb, he, hB, hQ, h1, h2, hk⟩ => ⟨b, fun k => k = b ∨ k = q ∨ k = wb ∨ k = tb ∨ k = hb, he, ⟨q, wb, tb, hb, .slice none 0 0, ?_⟩, hk, fun k hk => by omega⟩
  exact {
    bus := hB
    ram := hQ
    own := by simp
    own2 := fun k hk => by cases hk
    sep := h2
    lt := fun k hk => by
      have g1 := (Array.getElem?_eq_some_iff.1 hB.box).1
      have g2 := (Array.getElem?_eq_some_iff.1 hQ.raw.box).1
      have g3 := hQ.raw.words.lt
      have g4 := hQ.raw.watch.lt
      have g5 := hQ.raw.hit.lt
      omega
    acc := ⟨rfl, fun i hi => by cases hi⟩ }

/-- what a walk wants of the reference's bus -/
theorem RIn.cells {b q wb tb hb : Nat} {tv : Value} {O : Nat → Prop} {w : World} {s : Sb} (h : RIn b q wb tb hb tv O w s) :
    w.cell? ⟨b, 0, none⟩ = some (.pointer (some ⟨q, 0, none⟩)) ∧ w.cell? ⟨b, 1, none⟩ = some (.string ⟨s.l.toArray⟩) ∧ w.cell? ⟨b, 2, none⟩ = some (.int .u32 s.lamp) ∧ w.cell? ⟨b, 3, none⟩ = some tv ∧ w.cell? ⟨q, 0, none⟩ = some (.slice (some ⟨wb, 0, none⟩) 4096 4096) := by
  refine ⟨?_, ?_, ?_, ?_, ?_⟩
  · simp [World.cell?, h.bus.box]
  · simp [World.cell?, h.bus.box]
  · simp [World.cell?, h.bus.box]
  · simp [World.cell?, h.bus.box]
  · simp [World.cell?, h.ram.raw.box]
/-- memories that are alike -/
theorem alike_ram (a wb : Nat) (m : Nat → Int) (w wc : World) (hr : wc.rowIs a 23 4096 (fun i => .int .u32 (be m (4 * i) 4))) (hw : RowTo w wb 23 4096 (fun i => .int .u32 (be m (4 * i) 4))) (hk : Keeps (fun _ => False) w wc) :
    Calls Tryd.prog 15 #[.slice (some ⟨a, 0, none⟩) 4096 4096, .slice (some ⟨wb, 0, none⟩) 4096 4096] wc fun e w' => e = .returned (.int .i64 1) ∧ Keeps (fun _ => False) wc w' :=
  alike_same a wb 4096 4096 4096 (fun i => be m (4 * i) 4) wc (by omega) (by omega) (by omega) (fun i hi => hr.cell hi) (fun i hi => (hk.rowTo hw (fun h => h)).cell hi)
end Go.Proofs.YtchleihlnpplkaaDoor
