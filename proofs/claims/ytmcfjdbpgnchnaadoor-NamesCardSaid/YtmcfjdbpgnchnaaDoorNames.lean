/- The walk of the law Names. -/
import Derived.Test.YtmcfjdbpgnchnaaDoorInts
import Derived.Test.YtmcfjdbpgnchnaaDoorCode
namespace Go.Proofs.YtmcfjdbpgnchnaaDoor
open Go.RowKit Go.Deep
set_option linter.unusedVariables false

theorem coded_nil (w : World) :
    Calls Tryd.prog 6 #[.nilIface, .int .i64 0] w fun e w' => e = .returned (.bool true) ∧ w = w' := by
  go_enter Tryd.func6, Tryd.ntmps6
  go_wp2_with fail
  refine (code_nil _).mono ?_
  rintro e w' ⟨rfl, rfl⟩
  go_wp2_with fail
  go_ret
  exact ⟨rfl, rfl⟩
theorem coded_sent (c : Nat) (h1 : 1 ≤ c) (hc : c ≤ 10) (w : World) (ea : Nat → Addr) (E : ErrsAll w ea) :
    Calls Tryd.prog 6 #[.iface 38 (.pointer (some (ea c))), .int .i64 c] w fun e w' => e = .returned (.bool true) ∧ Keeps (fun _ => False) w w' := by
  have HE := Lib.hid E
  clear E
  go_enter Tryd.func6, Tryd.ntmps6
  go_wp2_with fail
  refine (code_sent c h1 hc _ ea HE.out).mono ?_
  rintro e w' ⟨rfl, hk⟩
  go_wp2_with fail
  go_ret
  exact ⟨rfl, hk⟩

def nums19 : Nat → Int
  | 0 => 16384
  | 1 => 256
  | 2 => 65536
  | 3 => 65540
  | 4 => 65544
  | 5 => 65548
  | 6 => 384
  | 7 => 12
  | 8 => 200
  | 9 => 24
  | 10 => 200
  | 11 => 64
  | 12 => 8
  | 13 => 40
  | 14 => 100000
  | 15 => 100
  | 16 => 16
  | 17 => 32
  | 18 => 33
  | _ => 0
theorem nums19_at (w : World) (T : TypeId) : IntsAt (w.alloc (.cells #[.int .i64 16384, .int .i64 256, .int .i64 65536, .int .i64 65540, .int .i64 65544, .int .i64 65548, .int .i64 384, .int .i64 12, .int .i64 200, .int .i64 24, .int .i64 200, .int .i64 64, .int .i64 8, .int .i64 40, .int .i64 100000, .int .i64 100, .int .i64 16, .int .i64 32, .int .i64 33] T)) (some ⟨w.heap.size, 0, none⟩) 19 19 nums19 := by
  refine ⟨Nat.le_refl _, by omega, .inr ⟨_, 0, rfl, fun i hi => ?_⟩⟩
  have hb := blk_alloc_new w (.cells #[.int .i64 16384, .int .i64 256, .int .i64 65536, .int .i64 65540, .int .i64 65544, .int .i64 65548, .int .i64 384, .int .i64 12, .int .i64 200, .int .i64 24, .int .i64 200, .int .i64 64, .int .i64 8, .int .i64 40, .int .i64 100000, .int .i64 100, .int .i64 16, .int .i64 32, .int .i64 33] T)
  rw [Nat.zero_add]
  unfold World.cell?
  rw [hb]
  have : i = 0 ∨ i = 1 ∨ i = 2 ∨ i = 3 ∨ i = 4 ∨ i = 5 ∨ i = 6 ∨ i = 7 ∨ i = 8 ∨ i = 9 ∨ i = 10 ∨ i = 11 ∨ i = 12 ∨ i = 13 ∨ i = 14 ∨ i = 15 ∨ i = 16 ∨ i = 17 ∨ i = 18 := by omega
  rcases this with rfl | rfl | rfl | rfl | rfl | rfl | rfl | rfl | rfl | rfl | rfl | rfl | rfl | rfl | rfl | rfl | rfl | rfl | rfl <;> rfl
theorem nums19_at2 (w : World) (o : Obj) (T : TypeId) : IntsAt ((w.alloc o).alloc (.cells #[.int .i64 16384, .int .i64 256, .int .i64 65536, .int .i64 65540, .int .i64 65544, .int .i64 65548, .int .i64 384, .int .i64 12, .int .i64 200, .int .i64 24, .int .i64 200, .int .i64 64, .int .i64 8, .int .i64 40, .int .i64 100000, .int .i64 100, .int .i64 16, .int .i64 32, .int .i64 33] T)) (some ⟨w.heap.size + 1, 0, none⟩) 19 19 nums19 := by
  have h := nums19_at (w.alloc o) T
  rwa [nblk_alloc] at h
def nums12 : Nat → Int
  | 0 => 0
  | 1 => 4
  | 2 => 5
  | 3 => 8
  | 4 => 9
  | 5 => 10
  | 6 => 12
  | 7 => 0
  | 8 => 1
  | 9 => 29
  | 10 => 53
  | 11 => 54
  | _ => 0
theorem nums12_at (w : World) (T : TypeId) : IntsAt (w.alloc (.cells #[.int .i64 0, .int .i64 4, .int .i64 5, .int .i64 8, .int .i64 9, .int .i64 10, .int .i64 12, .int .i64 0, .int .i64 1, .int .i64 29, .int .i64 53, .int .i64 54] T)) (some ⟨w.heap.size, 0, none⟩) 12 12 nums12 := by
  refine ⟨Nat.le_refl _, by omega, .inr ⟨_, 0, rfl, fun i hi => ?_⟩⟩
  have hb := blk_alloc_new w (.cells #[.int .i64 0, .int .i64 4, .int .i64 5, .int .i64 8, .int .i64 9, .int .i64 10, .int .i64 12, .int .i64 0, .int .i64 1, .int .i64 29, .int .i64 53, .int .i64 54] T)
  rw [Nat.zero_add]
  unfold World.cell?
  rw [hb]
  have : i = 0 ∨ i = 1 ∨ i = 2 ∨ i = 3 ∨ i = 4 ∨ i = 5 ∨ i = 6 ∨ i = 7 ∨ i = 8 ∨ i = 9 ∨ i = 10 ∨ i = 11 := by omega
  rcases this with rfl | rfl | rfl | rfl | rfl | rfl | rfl | rfl | rfl | rfl | rfl | rfl <;> rfl
theorem nums12_at2 (w : World) (o : Obj) (T : TypeId) : IntsAt ((w.alloc o).alloc (.cells #[.int .i64 0, .int .i64 4, .int .i64 5, .int .i64 8, .int .i64 9, .int .i64 10, .int .i64 12, .int .i64 0, .int .i64 1, .int .i64 29, .int .i64 53, .int .i64 54] T)) (some ⟨w.heap.size + 1, 0, none⟩) 12 12 nums12 := by
  have h := nums12_at (w.alloc o) T
  rwa [nblk_alloc] at h
theorem errNew_any (s : ByteArray) (w : World) :
    Calls Tryd.prog 7 #[.string s] w fun e w' => e = .returned (.iface 38 (.pointer (some ⟨w.heap.size, 0, none⟩))) ∧ w' = w.alloc (.cells #[.string s] 40) := by
  go_enter Tryd.func7, Tryd.ntmps7
  go_wp2_with fail
  go_ret
  exact ⟨rfl, rfl⟩
set_option maxRecDepth 100000 in
set_option maxHeartbeats 4000000 in
theorem names_any (w : World) (ea : Nat → Addr) (E : ErrsAll w ea) (hlo : ∀ c, 1 ≤ c → c ≤ 10 → (ea c).block < w.heap.size) :
    Calls Tryd.prog 3 #[] w fun e w' => e = .returned (.bool true) ∧ Keeps (fun _ => False) w w' := by
  have HE := Lib.hid E
  have HL := Lib.hid hlo
  clear E hlo
  go_enter Tryd.func3, Tryd.ntmps3
  go_wp2_with fail
  refine (sameInts_same _ _ 19 19 19 nums19 _ ?h1 ?h2).mono ?_
  case h1 => exact (nums19_at _ _).keep ((Keeps.refl _ _).alloc _)
  case h2 => exact nums19_at2 _ _ _
  rintro e w1 ⟨rfl, hk1⟩
  have K1 : Keeps (fun _ => False) w w1 := Keeps.trans (((Keeps.refl _ w).alloc _).alloc _) hk1 (fun _ _ h => h)
  clear hk1
  go_wp2_with fail
  refine (sameInts_same _ _ 12 12 12 nums12 _ ?h3 ?h4).mono ?_
  case h3 => exact (nums12_at _ _).keep ((Keeps.refl _ _).alloc _)
  case h4 => exact nums12_at2 _ _ _
  rintro e w2 ⟨rfl, hk2⟩
  have K2 : Keeps (fun _ => False) w w2 := K1.trans (Keeps.trans (((Keeps.refl _ w1).alloc _).alloc _) hk2 (fun _ _ h => h)) (fun _ _ h => h)
  clear hk2 K1
  have HE2 := Lib.hid (HE.out.quiet K2)
  have g1 : w2.cell? ⟨gOf 1, 0, none⟩ = some (.iface 38 (.pointer (some (ea 1)))) := HE2.out.cell 1 (by omega) (by omega)
  have g2 : w2.cell? ⟨gOf 2, 0, none⟩ = some (.iface 38 (.pointer (some (ea 2)))) := HE2.out.cell 2 (by omega) (by omega)
  have g3 : w2.cell? ⟨gOf 3, 0, none⟩ = some (.iface 38 (.pointer (some (ea 3)))) := HE2.out.cell 3 (by omega) (by omega)
  have g4 : w2.cell? ⟨gOf 4, 0, none⟩ = some (.iface 38 (.pointer (some (ea 4)))) := HE2.out.cell 4 (by omega) (by omega)
  have g5 : w2.cell? ⟨gOf 5, 0, none⟩ = some (.iface 38 (.pointer (some (ea 5)))) := HE2.out.cell 5 (by omega) (by omega)
  have g6 : w2.cell? ⟨gOf 6, 0, none⟩ = some (.iface 38 (.pointer (some (ea 6)))) := HE2.out.cell 6 (by omega) (by omega)
  have g7 : w2.cell? ⟨gOf 7, 0, none⟩ = some (.iface 38 (.pointer (some (ea 7)))) := HE2.out.cell 7 (by omega) (by omega)
  have g8 : w2.cell? ⟨gOf 8, 0, none⟩ = some (.iface 38 (.pointer (some (ea 8)))) := HE2.out.cell 8 (by omega) (by omega)
  have g9 : w2.cell? ⟨gOf 9, 0, none⟩ = some (.iface 38 (.pointer (some (ea 9)))) := HE2.out.cell 9 (by omega) (by omega)
  have g10 : w2.cell? ⟨gOf 10, 0, none⟩ = some (.iface 38 (.pointer (some (ea 10)))) := HE2.out.cell 10 (by omega) (by omega)
  simp only [gOf] at g1 g2 g3 g4 g5 g6 g7 g8 g9 g10
  have HTEN := Lib.hid (fun i hi => ten_cells w2 ea 25 i hi)
  go_wp2_with fail
  have K4 := K2.alloc (.cells #[.iface 38 (.pointer (some (ea 1))), .iface 38 (.pointer (some (ea 2))), .iface 38 (.pointer (some (ea 3))), .iface 38 (.pointer (some (ea 4))), .iface 38 (.pointer (some (ea 5))), .iface 38 (.pointer (some (ea 6))), .iface 38 (.pointer (some (ea 7))), .iface 38 (.pointer (some (ea 8))), .iface 38 (.pointer (some (ea 9))), .iface 38 (.pointer (some (ea 10)))] 25)
  generalize w2.alloc (.cells #[.iface 38 (.pointer (some (ea 1))), .iface 38 (.pointer (some (ea 2))), .iface 38 (.pointer (some (ea 3))), .iface 38 (.pointer (some (ea 4))), .iface 38 (.pointer (some (ea 5))), .iface 38 (.pointer (some (ea 6))), .iface 38 (.pointer (some (ea 7))), .iface 38 (.pointer (some (ea 8))), .iface 38 (.pointer (some (ea 9))), .iface 38 (.pointer (some (ea 10)))] 25) = w4 at *
  generalize w2.heap.size = B at *
  clear g1 g2 g3 g4 g5 g6 g7 g8 g9 g10 HE2 K2
  go_loopw [6] (fun s6 wr => ∃ i : Nat, i ≤ 10 ∧ s6 = .int .i64 i ∧ Keeps (fun _ => False) w wr ∧ Keeps (fun _ => False) w4 wr) (fun s6 _ => 10 - (intOf s6).toNat)
  case atStart => exact ⟨0, by omega, rfl, K4, Keeps.refl _ _⟩
  case round =>
    obtain ⟨i, hi, rfl, hK, hK4⟩ := hrel
    by_cases hlt : i < 10
    · have hc := hK4.cell' (HTEN.out i hlt) (fun f => f)
      have hlt' : (i : Int) < 10 := by omega
      have hi1 : ((i : Int) + 1) = ((i + 1 : Nat) : Int) := by omega
      have HI := Lib.hid hi1
      clear hi1
      have kb := (Keeps.refl (fun _ => False) wr).alloc (.cells #[.int .i64 7, .iface 38 (.pointer (some (ea (i + 1))))] 31)
      have hbx := blk_alloc_new wr (.cells #[.int .i64 7, .iface 38 (.pointer (some (ea (i + 1))))] 31)
      have hcb := kb.cell' hc (fun f => f)
      go_wp2_with fail
      generalize wr.alloc (.cells #[.int .i64 7, .iface 38 (.pointer (some (ea (i + 1))))] 31) = wx at *
      generalize wr.heap.size = x at *
      have HK := Lib.hid (hK.trans kb (fun _ _ h => h))
      have HK4 := Lib.hid (hK4.trans kb (fun _ _ h => h))
      refine (code_fault (i + 1) (by omega) (by omega) x 7 _ ea (HE.out.quiet HK.out) (by simp [World.cell?, hbx]) (by simp [World.cell?, hbx]; rfl)).mono ?_
      rintro e w5 ⟨rfl, hk5⟩
      have hc5 := hk5.cell' hcb (fun f => f)
      have HK5 := Lib.hid hk5
      clear hk5 hbx hcb hc kb hK hK4
      go_wp2_with fail
      rw [HI.out]
      refine (coded_sent (i + 1) (by omega) (by omega) _ ea (HE.out.quiet (HK.out.trans HK5.out (fun _ _ h => h)))).mono ?_
      rintro e w6 ⟨rfl, hk6⟩
      go_wp2_with fail
      go_roundw
      case rel => exact ⟨i + 1, by omega, by go_num, (HK.out.trans HK5.out (fun _ _ h => h)).trans hk6 (fun _ _ h => h), (HK4.out.trans HK5.out (fun _ _ h => h)).trans hk6 (fun _ _ h => h)⟩
      case measure => simp [intOf]; omega
    · obtain rfl : i = 10 := by omega
      have HK := Lib.hid hK
      clear hK hK4
      go_wp2_with fail
      refine (errNew_any _ _).mono ?_
      rintro e w5 ⟨rfl, hw5⟩
      have hb5 := blk_alloc_new wr (.cells #[.string ⟨#[97, 110, 111, 116, 104, 101, 114, 32, 111, 110, 101]⟩] 40)
      have hk5 := (Keeps.refl (fun _ => False) wr).alloc (.cells #[.string ⟨#[97, 110, 111, 116, 104, 101, 114, 32, 111, 110, 101]⟩] 40)
      rw [← hw5] at hb5 hk5
      have hsz := HK.out.size
      have HK5 := Lib.hid (HK.out.trans hk5 (fun _ _ h => h))
      have HB5 := Lib.hid hb5
      clear hw5 hb5 hk5
      generalize wr.heap.size = x at *
      go_wp2_with fail
      refine (code_other ⟨x, 0, none⟩ _ _ _ ea (HE.out.quiet HK5.out) (fun c h1 h2 h => ?_) HB5.out).mono ?_
      · have := HL.out c h1 h2
        rw [← h] at this
        simp at this
        omega
      rintro e w6 ⟨rfl, hk6⟩
      have HK6 := Lib.hid (HK5.out.trans hk6 (fun _ _ h => h))
      clear hk6
      go_wp2_with fail
      refine (coded_nil _).mono ?_
      rintro e w' ⟨rfl, rfl⟩
      go_wp2_with fail
      go_ret
      exact ⟨rfl, HK6.out⟩
end Go.Proofs.YtmcfjdbpgnchnaaDoor
