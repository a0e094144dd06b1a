/- The walk of the law BusApart. -/
import Derived.Test.YtchleihlnpplkaaDoorApart
namespace Go.Proofs.YtchleihlnpplkaaDoor
open Go.RowKit Go.Deep
set_option linter.unusedVariables false

/-- records that came in, with a bound on what is not a number of 32 bits -/
structure Acts (w : World) (A : Option Addr) (n cap : Nat) (st sg : Nat → Bool) (ad sz vv ct : Nat → Int) : Prop where
  reads : RecReads w A n cap 6 (actC st sg ad sz vv ct)
  cap : cap ≤ 9223372036854775807
  ad : ∀ i, i < n → 0 ≤ ad i ∧ ad i < 4294967296
  vv : ∀ i, i < n → 0 ≤ vv i ∧ vv i < 4294967296
  sz : ∀ i, i < n → (Lit.int .i64 (sz i)).wf = true
  ct : ∀ i, i < n → (Lit.int .i64 (ct i)).wf = true

/-- six cells of a variable -/
structure Var6 (w : World) (x : Nat) (s : Bool) (a n : Int) (g : Bool) (v c : Int) : Prop where
  v0 : w.cell? ⟨x, 0, none⟩ = some (.bool s)
  v1 : w.cell? ⟨x, 1, none⟩ = some (.int .u32 a)
  v2 : w.cell? ⟨x, 2, none⟩ = some (.int .i64 n)
  v3 : w.cell? ⟨x, 3, none⟩ = some (.bool g)
  v4 : w.cell? ⟨x, 4, none⟩ = some (.int .u32 v)
  v5 : w.cell? ⟨x, 5, none⟩ = some (.int .i64 c)
theorem Var6.keep {S : Nat → Prop} {w w' : World} {x : Nat} {s g : Bool} {a n v c : Int} (V : Var6 w x s a n g v c) (k : Keeps S w w') (h : ¬ S x) : Var6 w' x s a n g v c :=
  ⟨k.cell' V.v0 h, k.cell' V.v1 h, k.cell' V.v2 h, k.cell' V.v3 h, k.cell' V.v4 h, k.cell' V.v5 h⟩
theorem Var6.new (w : World) (s g : Bool) (a n v c : Int) (T : TypeId) : Var6 (w.alloc (.cells #[.bool s, .int .u32 a, .int .i64 n, .bool g, .int .u32 v, .int .i64 c] T)) w.heap.size s a n g v c := by
  constructor <;> (unfold World.cell?; rw [blk_alloc_new]; rfl)
theorem ApInv.notS {w0 wr : World} {D b r pb pw ph r2 pb2 pw2 ph2 : Nat} {m : Nat → Int} {ov : Value} {on : Nat} {l : List UInt8} {lamp : Int} {tv : Value} {tn : Nat} {tb : List Value} (N : ApB w0 D b r pb pw ph r2 pb2 pw2 ph2) (I : ApInv w0 D b r pb pw ph r2 pb2 pw2 ph2 wr m ov on l lamp tv tn tb) : ¬ busS b ov tv wr.heap.size ∧ wr.heap.size ≠ pb ∧ wr.heap.size ≠ pb2 := by
  have := N.high
  have := I.size
  refine ⟨fun h => ?_, by omega, by omega⟩
  rcases h with h | h | h
  · omega
  · have := owns_lt I.bus.out h; omega
  · have := owns_lt I.bus.tr h; omega

set_option maxRecDepth 100000 in
set_option maxHeartbeats 4000000 in
theorem busApart_any (len cap : Nat) (A : Option Addr) (n2 cap2 : Nat) (A2 : Option Addr) (w : World) (ws : Nat → Int) (st sg : Nat → Bool) (ad sz vv ct : Nat → Int) (ea : Nat → Addr) (E : Errs3 w ea) (hR : Reads w A len cap (fun i => .int .u32 (ws i))) (hc : cap ≤ 9223372036854775807) (hr : ∀ i, i < len → 0 ≤ ws i ∧ ws i < 4294967296) (hA : Acts w A2 n2 cap2 st sg ad sz vv ct) :
    Calls Tryd.prog 5 #[.slice A len cap, .slice A2 n2 cap2] w fun e w' => e = .returned (.bool true) ∧ Keeps (fun _ => False) w w' := by
  have hlc := hR.1
  have hlc2 := hA.reads.1
  have hc2 := hA.cap
  by_cases h5 : 200 < len ∨ 60 < n2
  · by_cases h6 : 200 < len
    · go_enter Tryd.func5, Tryd.ntmps5
      go_wp2_with fail
      refine (bused_any _).mono ?_
      rintro e w1 ⟨rfl, hK1⟩
      go_wp2_with fail
      go_ret
      exact ⟨rfl, hK1⟩
    · have h7 : 60 < n2 := by omega
      go_enter Tryd.func5, Tryd.ntmps5
      go_wp2_with fail
      refine (bused_any _).mono ?_
      rintro e w1 ⟨rfl, hK1⟩
      go_wp2_with fail
      go_ret
      exact ⟨rfl, hK1⟩
  · have h6 : ¬ 200 < len := by omega
    have h7 : ¬ 60 < n2 := by omega
    go_enter Tryd.func5, Tryd.ntmps5
    go_wp2_with fail
    refine (bused_any _).mono ?_
    rintro e w1 ⟨rfl, hK1⟩
    go_wp2_with fail
    have hR1 := hR.keep hK1 (fun _ _ _ h => h)
    refine (busNew_any len cap A _ ws hR1 hc hr).mono ?_
    rintro e w2 ⟨b, r, pb, pw, ph, rfl, hN⟩
    have hK2 := hK1.trans hN.keeps (fun _ _ h => h)
    have hR2 := hR1.keep hN.keeps (fun _ _ _ h => h)
    have hs1 := hK1.size
    go_wp2_with fail
    refine (new_any len cap A _ ws hR2 hc hr).mono ?_
    rintro e w3 ⟨rfl, hN2⟩
    have hK3 := hK2.trans hN2.keeps (fun _ _ h => h)
    have hn := hN.new
    have hap := hN.apart
    have hra := hN.ram.apart
    have hs2 := hN2.size
    have hB2 := hN.bus.box
    have g1 : b < w2.heap.size := (Array.getElem?_eq_some_iff.1 hN.bus.box).1
    have g2 : r < w2.heap.size := (Array.getElem?_eq_some_iff.1 hN.ram.box).1
    have g3 : pb < w2.heap.size := hN.ram.bytes.lt
    have g4 : pw < w2.heap.size := lt_map hN.watch
    have N : ApB w w3.heap.size b r pb pw ph (w2.heap.size + 3) w2.heap.size (w2.heap.size + 1) (w2.heap.size + 2) := ⟨by omega, by omega, by omega, by omega⟩
    have I : ApInv w w3.heap.size b r pb pw ph (w2.heap.size + 3) w2.heap.size (w2.heap.size + 1) (w2.heap.size + 2) w3 (ramOf (min len 4096) ws) (.slice none 0 0) 0 [] 0 (.slice none 0 0) 0 [] := {
      keeps := hK3
      bus := hN.bus.keep hN2.keeps (fun h => h) (fun _ _ h => h) (fun _ _ h => h)
      ram := hN.ram.keep hN2.keeps (fun h => h) (fun h => h)
      watch := hN2.keeps.map hN.watch (fun h => h)
      ram2 := hN2.ram
      watch2 := hN2.watch
      own1 := fun k hk => by cases hk
      own2 := fun k hk => by cases hk
      size := Nat.le_refl _
      one := fun u hu => by cases hu
      cnt := Nat.le_refl _ }
    clear hN hN2 hK1 hK2 hK3 hR hR1 hR2 hr hB2 hs1 hs2 hn hap hra g1 g2 g3 g4
    generalize w3.heap.size = D at *
    generalize w2.heap.size + 3 = r2 at *
    generalize w2.heap.size + 2 = ph2 at *
    generalize w2.heap.size + 1 = pw2 at *
    generalize w2.heap.size = pb2 at *
    go_wp2_with fail
    go_loopw [8, 9, 10, 11, 12, 13, 14, 15] (fun s8 s9 _ _ _ _ _ _ wr => ∃ (i : Nat) (m : Nat → Int) (ov : Value) (on : Nat) (l : List UInt8) (lamp : Int) (tv : Value) (tn : Nat) (tb : List Value), i ≤ n2 ∧ tn ≤ i ∧ s9 = .int .i64 i ∧ s8 = .int .i64 tn ∧ ApInv w D b r pb pw ph r2 pb2 pw2 ph2 wr m ov on l lamp tv tn tb) (fun _ s9 _ _ _ _ _ _ _ => n2 - (intOf s9).toNat)
    case atStart => exact ⟨0, _, _, _, _, _, _, 0, _, by omega, by omega, rfl, rfl, I⟩
    case round =>
      obtain ⟨i, m, ov, on, l, lamp, tv, tn, tb, hi, htn, rfl, rfl, I⟩ := hrel
      by_cases hlt : i < n2
      · have ha := hA.ad i hlt
        have hv := hA.vv i hlt
        have hsz := hA.sz i hlt
        have hct := hA.ct i hlt
        obtain ⟨ab, ao, rfl, hab, hcell⟩ : ∃ ab ao, A2 = some ⟨ab, ao, none⟩ ∧ ab < wr.heap.size ∧ ∀ j, j < 6 → wr.cell? ⟨ab, ao + i * 6 + j, none⟩ = some (actC st sg ad sz vv ct i j) := by
          obtain ⟨h1, h2 | ⟨ab, ao, h2, h3, h4⟩⟩ := hA.reads.keep I.keeps (fun _ _ _ h => h)
          · omega
          · exact ⟨ab, ao, h2, h3, h4 i hlt⟩
        have e0 : wr.cell? ⟨ab, ao + i * 6, none⟩ = some (.bool (st i)) := hcell 0 (by omega)
        have e1 : wr.cell? ⟨ab, ao + i * 6 + 1, none⟩ = some (.int .u32 (ad i)) := hcell 1 (by omega)
        have e2 : wr.cell? ⟨ab, ao + i * 6 + 2, none⟩ = some (.int .i64 (sz i)) := hcell 2 (by omega)
        have e3 : wr.cell? ⟨ab, ao + i * 6 + 3, none⟩ = some (.bool (sg i)) := hcell 3 (by omega)
        have e4 : wr.cell? ⟨ab, ao + i * 6 + 4, none⟩ = some (.int .u32 (vv i)) := hcell 4 (by omega)
        have e5 : wr.cell? ⟨ab, ao + i * 6 + 5, none⟩ = some (.int .i64 (ct i)) := hcell 5 (by omega)
        clear hcell
        generalize st i = s0 at *
        generalize ad i = a at *
        generalize sz i = n at *
        generalize sg i = sgn at *
        generalize vv i = v at *
        generalize ct i = c at *
        have hx := I.notS N
        have hV := Var6.new wr s0 sgn a n v c 42
        have kx := (Keeps.refl (fun _ => False) wr).alloc (.cells #[.bool s0, .int .u32 a, .int .i64 n, .bool sgn, .int .u32 v, .int .i64 c] 42)
        have Ix := I.quiet kx
        have Ex := E.keep Ix.keeps ⟨fun h => h, fun h => h, fun h => h⟩
        have hlo : 0 ≤ a := ha.1
        cases s0
        · go_wp2_with fail
          generalize hwx : wr.alloc (.cells #[.bool false, .int .u32 a, .int .i64 n, .bool sgn, .int .u32 v, .int .i64 c] 42) = wx at *
          generalize wr.heap.size = x at *
          obtain ⟨f0, f1, f2, f3, f4, f5⟩ := hV
          have hb0 : wx.cell? ⟨b, 0, none⟩ = some (.pointer (some ⟨r, 0, none⟩)) := by simp [World.cell?, Ix.bus.box]
          by_cases ha4 : a < 16384
          · by_cases hc0 : rightC a n = 0
            · refine (bload_ok b r _ _ _ _ m a n c sgn wx hb0 Ix.ram ha hc0).mono ?_
              rintro e w' ⟨rfl, rfl⟩
              generalize hy : Wd.wide (be m a.toNat n.toNat) (8 * n) sgn = y
              go_wp2_with fail
              refine (load_okI _ _ _ _ _ m a n sgn wx Ix.ram2 hlo hc0).mono ?_
              rintro e w' ⟨rfl, rfl⟩
              rw [hy]
              clear hy
              go_wp2_with fail
              go_quiet (fail)
              go_wp2_with fail
              go_roundw
              case rel => exact ⟨i + 1, m, ov, on, l, lamp, tv, tn, tb, by omega, by omega, by go_num, rfl, Ix.quiet (Keeps.of_drewN _ _ _)⟩
              case measure => simp [intOf]; omega
            · refine (bload_bad b r a n c sgn wx ea Ex hb0 ha ha4 hc0).mono ?_
              rintro e w' ⟨rfl, rfl⟩
              unfold errV
              go_wp2_with fail
              refine (load_bad _ a n sgn wx ea Ex ha hc0).mono ?_
              rintro e w' ⟨rfl, rfl⟩
              unfold errV
              go_wp2_with fail
              go_quiet (fail)
              go_wp2_with fail
              go_roundw
              case rel => exact ⟨i + 1, m, ov, on, l, lamp, tv, tn, tb, by omega, by omega, by go_num, rfl, Ix.quiet (Keeps.of_drewN _ _ _)⟩
              case measure => simp [intOf]; omega
          · by_cases hc0 : devC a n = 0
            · have hcnt := Ix.cnt
              refine (bload_dev b r ov on _ lamp tv tn tb a n c sgn wx Ix.bus (by omega) ha hc0).mono ?_
              rintro e w' ⟨rfl, tv', B', hm', hk'⟩
              generalize devV a c lamp = y at *
              have hk2 : Keeps (busS b ov tv) wx w' := hk'.mono (fun k _ h => by
                rcases h with h | h
                · exact .inl h
                · exact .inr (.inr h))
              have Iy := Ix.dev N B' (.inl rfl) hm' hk2 (by omega)
              have g1 := hk2.cell' f1 hx.1
              go_wp2_with fail
              go_roundw
              case rel => exact ⟨i + 1, m, ov, on, l, lamp, tv', tn + 1, _, by omega, by omega, by go_num, by go_num, Iy⟩
              case measure => simp [intOf]; omega
            · refine (bload_dbad b a n c sgn wx ea Ex ha ha4 hc0).mono ?_
              rintro e w' ⟨rfl, rfl⟩
              unfold errV
              go_wp2_with fail
              go_roundw
              case rel => exact ⟨i + 1, m, ov, on, l, lamp, tv, tn, tb, by omega, by omega, by go_num, rfl, Ix⟩
              case measure => simp [intOf]; omega
        · go_wp2_with fail
          generalize hwx : wr.alloc (.cells #[.bool true, .int .u32 a, .int .i64 n, .bool sgn, .int .u32 v, .int .i64 c] 42) = wx at *
          generalize wr.heap.size = x at *
          obtain ⟨f0, f1, f2, f3, f4, f5⟩ := hV
          have hb0 : wx.cell? ⟨b, 0, none⟩ = some (.pointer (some ⟨r, 0, none⟩)) := by simp [World.cell?, Ix.bus.box]
          by_cases ha4 : a < 16384
          · by_cases hc0 : rightC a n = 0
            · refine (bstore_ok b r _ _ _ _ _ m a n v c wx hb0 Ix.ram Ix.watch ha hv hc0).mono ?_
              rintro e w4 ⟨rfl, hR4, hk4⟩
              have g1 := hk4.cell' f1 hx.2.1
              have g2 := hk4.cell' f2 hx.2.1
              have g4 := hk4.cell' f4 hx.2.1
              have hR2 := Ix.ram2.keep hk4 N.a2.2.2.2.2.1 N.a2.2.2.2.2.2.2.2.2.symm
              have hW2 := hk4.map Ix.watch2 N.a2.2.2.2.2.2.2.1
              go_wp2_with fail
              refine (store_empty _ _ _ _ _ _ m a n v w4 hR2 hW2 hlo hv hc0).mono ?_
              rintro e w5 ⟨rfl, hR5, hk5⟩
              have Iy := Ix.both N hR4 hk4 hR5 hk5
              go_wp2_with fail
              go_roundw
              case rel => exact ⟨i + 1, _, ov, on, l, lamp, tv, tn, tb, by omega, by omega, by go_num, rfl, Iy⟩
              case measure => simp [intOf]; omega
            · refine (bstore_bad b r a n v c wx ea Ex hb0 ha ha4 hc0).mono ?_
              rintro e w' ⟨rfl, rfl⟩
              unfold errV
              go_wp2_with fail
              refine (store_bad _ a n v wx ea Ex ha hc0).mono ?_
              rintro e w' ⟨rfl, rfl⟩
              unfold errV
              go_wp2_with fail
              go_roundw
              case rel => exact ⟨i + 1, m, ov, on, l, lamp, tv, tn, tb, by omega, by omega, by go_num, rfl, Ix⟩
              case measure => simp [intOf]; omega
          · by_cases hc0 : devC a n = 0
            · have hcnt := Ix.cnt
              refine (bstore_dev b r ov on _ lamp tv tn tb a n v c wx Ix.bus (by omega) (by omega) ha hv hc0).mono ?_
              rintro e w' ⟨rfl, ov', tv', B', hm1, hm2, hk2⟩
              have g1 := hk2.cell' f1 hx.1
              obtain ⟨l', hl'⟩ : ∃ l', outB a v (byteVals l) = byteVals l' := by
                unfold outB
                split
                · exact ⟨_, byteVals_add l v⟩
                · exact ⟨l, rfl⟩
              rw [hl'] at B'
              have ho : outN a on ≤ tn + 1 := by unfold outN; split <;> omega
              have Iy := Ix.dev N B' hm1 hm2 hk2 ho
              go_wp2_with fail
              go_roundw
              case rel => exact ⟨i + 1, m, ov', _, l', _, tv', tn + 1, _, by omega, by omega, by go_num, by go_num, Iy⟩
              case measure => simp [intOf]; omega
            · refine (bstore_dbad b a n v c wx ea Ex ha ha4 hc0).mono ?_
              rintro e w' ⟨rfl, rfl⟩
              unfold errV
              go_wp2_with fail
              go_roundw
              case rel => exact ⟨i + 1, m, ov, on, l, lamp, tv, tn, tb, by omega, by omega, by go_num, rfl, Ix⟩
              case measure => simp [intOf]; omega
      · obtain rfl : i = n2 := by omega
        have hone := I.one
        go_wp2_with fail
        refine (trace_any b r _ _ _ _ _ tn tb _ I.bus (by omega) hone).mono ?_
        rintro e w4 ⟨v4, rfl, ho4, hk4⟩
        obtain ⟨A4, cap4, rfl⟩ := owns_slice ho4
        have I4 := I.quiet hk4
        have hb0 : w4.cell? ⟨b, 0, none⟩ = some (.pointer (some ⟨r, 0, none⟩)) := by simp [World.cell?, I4.bus.box]
        go_wp2_with fail
        refine (ramOf_any b r _ hb0).mono ?_
        rintro e w' ⟨rfl, rfl⟩
        go_wp2_with fail
        refine (words_any _ _ _ _ _ m _ I4.ram).mono ?_
        rintro e w5 ⟨rfl, hrow5, hk5⟩
        have I5 := I4.quiet hk5
        go_wp2_with fail
        refine (words_any _ _ _ _ _ m _ I5.ram2).mono ?_
        rintro e w6 ⟨rfl, hrow6, hk6⟩
        have I6 := I5.quiet hk6
        go_wp2_with fail
        refine (alike_same _ _ 4096 4096 4096 (fun k => be m (4 * k) 4) _ (by omega) (by omega) (by omega) (fun i hi => (hk6.rowTo (RowTo.of_row hrow5) (fun h => h)).cell hi) (fun i hi => hrow6.cell hi)).mono ?_
        rintro e w7 ⟨rfl, hk7⟩
        have I7 := I6.quiet hk7
        go_wp2_with fail
        go_ret
        exact ⟨rfl, I7.keeps⟩
end Go.Proofs.YtchleihlnpplkaaDoor
