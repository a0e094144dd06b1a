import Derived.Test.YtknhfobcejpmeaaGreatDoorHrz05
import Derived.Test.YtknhfobcejpmeaaGreatDoorHrz09
import Derived.Test.YtknhfobcejpmeaaGreatDoorHrz10

/- RunOf -/
/- The walk of the reference's RunOf. Printed by gen/runof.py. -/
namespace Go.Proofs.YtknhfobcejpmeaaGreatDoor
open Go.RowKit Go.Deep
set_option linter.unusedVariables false
set_option linter.unusedSimpArgs false

/-- an end of the reference's in a block of its own -/
def rendC (t : Bool) (a : Int) (f : Bool) : Array Value := #[.bool t, .int .i64 a, .bool f]
theorem size_rend : (Tryz.prog.info? 68).map (·.size) = some 3 := by kernel_rfl
structure REndBox (w : World) (x : Nat) (t : Bool) (a : Int) (f : Bool) : Prop where
  blk : w.heap[x]? = some (.cells (rendC t a f) 68 (0, 0))
theorem REndBox.lt {w : World} {x : Nat} {t f : Bool} {a : Int} (h : REndBox w x t a f) : x < w.heap.size := (Array.getElem?_eq_some_iff.1 h.blk).1
theorem REndBox.keep {S : Nat → Prop} {w w' : World} {x : Nat} {t f : Bool} {a : Int} (h : REndBox w x t a f) (k : Keeps S w w') (hs : ¬ S x) : REndBox w' x t a f := ⟨(k.block x h.lt hs).trans h.blk⟩
theorem REndBox.frozen {w : World} {x : Nat} {t f : Bool} {a : Int} (h : REndBox w x t a f) : w.frozen? ⟨x, 0, none⟩ = false ∧ w.frozen? ⟨x, 1, none⟩ = false ∧ w.frozen? ⟨x, 2, none⟩ = false :=
  ⟨frozen_of_block h.blk 0, frozen_of_block h.blk 1, frozen_of_block h.blk 2⟩
theorem REndBox.cells {w : World} {x : Nat} {t f : Bool} {a : Int} (h : REndBox w x t a f) : w.cell? ⟨x, 0, none⟩ = some (.bool t) ∧ w.cell? ⟨x, 1, none⟩ = some (.int .i64 a) ∧ w.cell? ⟨x, 2, none⟩ = some (.bool f) :=
  ⟨cell_at h.blk 0, cell_at h.blk 1, cell_at h.blk 2⟩
theorem REndBox.new (w : World) (t : Bool) (a : Int) (f : Bool) : REndBox (w.alloc (.cells (rendC t a f) 68)) w.heap.size t a f := ⟨blk_alloc_new _ _⟩
theorem REndBox.put {w : World} {x : Nat} {t t' f f' : Bool} {a a' : Int} (h : REndBox w x t a f) :
    REndBox (((w.setCell ⟨x, 0, none⟩ (.bool t')).setCell ⟨x, 1, none⟩ (.int .i64 a')).setCell ⟨x, 2, none⟩ (.bool f')) x t' a' f' ∧ Keeps (· = x) w (((w.setCell ⟨x, 0, none⟩ (.bool t')).setCell ⟨x, 1, none⟩ (.int .i64 a')).setCell ⟨x, 2, none⟩ (.bool f')) := by
  refine ⟨⟨?_⟩, Keeps.trans (Keeps.trans (Keeps.one _ _ _ _) (Keeps.one _ _ _ _) (fun _ _ h => h)) (Keeps.one _ _ _ _) (fun _ _ h => h)⟩
  have h1 := set_block (set_block (set_block h.blk 0 (.bool t')) 1 (.int .i64 a')) 2 (.bool f')
  simpa [rendC] using h1
/-- what RunOf answers -/
def RunIs (w : World) (sb q tb hb : Nat) (s : Cp.St) (wt ht : Nat → Bool) (many : Int) (r : Ir.REnd) (e : Ending) (w' : World) : Prop :=
  match r with
  | .trap a => e = .returned (.agg (rendC true a false)) ∧ Keeps (fun _ => False) w w'
  | .leave pc X mm => e = .returned (.agg (rendC false 0 false)) ∧ StAt w' sb (Ir.leaveSt s ⟨X, []⟩ pc many) ∧ (∃ wb', RefAt w' q wb' tb hb mm wt ht) ∧ Keeps (fun b => b = sb ∨ b = q) w w'
  | .fell => e = .returned (.agg (rendC false 0 true)) ∧ Keeps (fun _ => False) w w'
/-- the ranges of registers -/
def Xok (X : Nat → Int) : Prop := ∀ k, k < 64 → 0 ≤ X k ∧ X k < 4294967296
theorem Xok.apply {X m : Nat → Int} {W : Int → Bool} {o : Ir.Op} {Y : Nat → Int} (hX : Xok X) (hY : Xok Y) (hm : ∀ j, j < 16384 → 0 ≤ m j ∧ m j < 256) (hi : Ir.OpIn o) : Xok (Ir.applyX Y o (Ir.resOf X m W o)) := by
  intro k hk
  unfold Ir.applyX
  split
  · unfold Ir.setX
    split
    · exact (Ir.res_rng hX hm hi).1
    · exact hY k hk
  · exact hY k hk
theorem apply0 {o : Ir.Op} {Y : Nat → Int} {r : Ir.RRes} : Ir.applyX Y o r 0 = Y 0 := by
  unfold Ir.applyX
  split
  · rename_i h
    unfold Ir.setX
    rw [if_neg (by omega)]
  · rfl
theorem encL_lt (o : Option Int) (h : ∀ a, o = some a → 0 ≤ a) : decide (Ir.encL o < 0) = o.isNone := by
  cases o with
  | none => rfl
  | some a => 
    have := h a rfl
    exact decide_eq_false (by show ¬ a < 0; omega)
/-- so far come to -/
def Ir.resUp (X m : Nat → Int) (W : Int → Bool) (l : List Ir.Op) (k : Nat) : List Ir.RRes := (l.take k).map (Ir.resOf X m W)
theorem Ir.resUp_step (X m : Nat → Int) (W : Int → Bool) (l : List Ir.Op) (k : Nat) (h : k < l.length) : Ir.resUp X m W l (k + 1) = Ir.resUp X m W l k ++ [Ir.resOf X m W (l.getD k Ir.nop)] := by
  unfold Ir.resUp
  rw [Ir.take_succ_getD l k h, List.map_append]
  rfl
theorem Ir.resUp_len (X m : Nat → Int) (W : Int → Bool) (l : List Ir.Op) (k : Nat) (h : k ≤ l.length) : (Ir.resUp X m W l k).length = k := by
  unfold Ir.resUp
  rw [List.length_map, List.length_take, Nat.min_eq_left h]
theorem Ir.resUp_get (X m : Nat → Int) (W : Int → Bool) (l : List Ir.Op) (n k : Nat) (h : k < n) (hn : n ≤ l.length) : (Ir.resUp X m W l n).getD k nores = Ir.resOf X m W (l.getD k Ir.nop) := by
  unfold Ir.resUp
  rw [List.getD_eq_getElem?_getD, List.getElem?_map, List.getElem?_take_of_lt h, List.getD_eq_getElem?_getD, List.getElem?_eq_getElem (by omega)]
  rfl
theorem StAt.congrR {w : World} {sb : Nat} {s : Cp.St} {R' : Nat → Int} (h : StAt w sb s) (e : ∀ k, k < 32 → s.R k = R' k) : StAt w sb { s with R := R' } := by
  have h1 : regs R' = regs s.R := List.map_congr_left (fun k hk => by rw [e k (List.mem_range.1 hk)])
  have h2 : stL { s with R := R' } = stL s := by
    unfold stL
    rw [show regs ({ s with R := R' } : Cp.St).R = regs s.R from h1]
    rfl
  unfold StAt
  rw [h2]
  exact h
/-- an op that writes a register -/
theorem Ir.writes_pos {o : Ir.Op} (hi : Ir.OpIn o) (h : 0 < Ir.writes o) : (Ir.kn o.k ≠ 6 ∧ Ir.leaves (Ir.kn o.k) = false) ∧ Ir.writes o < 64 := by
  have hle := Ir.kn_le o.k
  have h0 := hi.k
  have hk : Ir.kn o.k = 1 ∨ Ir.kn o.k = 2 ∨ Ir.kn o.k = 5 ∨ 10 ≤ Ir.kn o.k := by
    rcases (show (Ir.kn o.k = 1 ∨ Ir.kn o.k = 2 ∨ Ir.kn o.k = 5 ∨ 10 ≤ Ir.kn o.k) ∨ (Ir.kn o.k = 3 ∨ Ir.kn o.k = 4 ∨ (6 ≤ Ir.kn o.k ∧ Ir.kn o.k ≤ 9)) by omega) with h1 | h1
    · exact h1
    · rw [Ir.writes_0 h1] at h
      omega
  refine ⟨⟨by omega, ?_⟩, by rw [Ir.writes_d hk]; exact (hi.d hk).2⟩
  unfold Ir.leaves
  exact decide_eq_false (by omega)
theorem Ir.writes_nneg {o : Ir.Op} (hi : Ir.OpIn o) : 0 ≤ Ir.writes o := by
  have hle := Ir.kn_le o.k
  have h0 := hi.k
  rcases (show (Ir.kn o.k = 1 ∨ Ir.kn o.k = 2 ∨ Ir.kn o.k = 5 ∨ 10 ≤ Ir.kn o.k) ∨ (Ir.kn o.k = 3 ∨ Ir.kn o.k = 4 ∨ (6 ≤ Ir.kn o.k ∧ Ir.kn o.k ≤ 9)) by omega) with h1 | h1
  · rw [Ir.writes_d h1]
    have := (hi.d h1).1
    omega
  · rw [Ir.writes_0 h1]
    omega
set_option maxHeartbeats 16000000 in
set_option maxRecDepth 100000 in
theorem runOf_any (rows : List (List Ir.Op)) (many : Int) (A : Option Addr) (n cap sb q wb tb hb : Nat) (m : Nat → Int) (wt ht : Nat → Bool) (W : Int → Bool) (s : Cp.St) (w : World) (V : RowsAt w A n cap rows) (hcap : cap ≤ 9223372036854775807) (hin : ∀ l ∈ rows, (∀ o ∈ l, Ir.OpIn o) ∧ l.length < 1000000)
    (hS : StAt w sb s) (hRng : Cp.Rng s) (R : RefAt w q wb tb hb m wt ht) (hW : ∀ p : Nat, p < 64 → wt p = W p) (h0 : s.R 0 = 0) (hmany : 0 ≤ many ∧ many ≤ 24) :
    Calls Tryz.prog 27 #[.slice A n cap, .int .i64 many, .pointer (some ⟨sb, 0, none⟩), .pointer (some ⟨q, 0, none⟩)] w (RunIs w sb q tb hb s wt ht many (Ir.runRows W (Ir.mc0 s).X m rows)) := by
  obtain ⟨i0, hinf, hz0, hz1, hz2⟩ := info_parts Tryz.info_res
  have HV := Lib.hid V
  have HLEN := Lib.hid V.len
  have hnc := V.le
  have HIN := Lib.hid hin
  have HS := Lib.hid hS
  have HRNG := Lib.hid hRng
  have HR := Lib.hid R
  have HW := Lib.hid hW
  have H0 := Lib.hid h0
  have HX0 := Lib.hid (show Xok (Ir.mc0 s).X from (Ir.mc0_ok (fun _ => false) hRng).X)
  have HX00 := Lib.hid (show (Ir.mc0 s).X 0 = 0 from h0)
  have HB0 := Lib.hid (REndBox.new w false 0 false)
  have hka := (Keeps.refl (fun _ => False) w).alloc (.cells (rendC false 0 false) 68)
  have HK0 := Lib.hid hka
  have HSL := Lib.hid (show sb < w.heap.size ∧ q < w.heap.size ∧ sb ≠ q from ⟨hS.lt, (Array.getElem?_eq_some_iff.1 R.raw.box).1, fun e => by
    have h1 := R.raw.box
    rw [← e, show w.heap[sb]? = _ from hS] at h1
    injection h1 with h1
    injection h1 with _ h2
    exact absurd h2 (by decide)⟩)
  have HRS := Lib.hid (show (¬ q = sb) ∧ (¬ wb = sb) ∧ (¬ tb = sb) ∧ ¬ hb = sb from by
    have ht : ∀ (b n : Nat) (T : TypeId) (f : Nat → Value), T ≠ 26 → RowTo w b T n f → ¬ b = sb := fun b n T f hT hr e => by
      obtain ⟨c, hb, _⟩ := hr
      rw [e, show w.heap[sb]? = _ from hS] at hb
      injection hb with hb
      injection hb with _ h2
      exact hT h2.symm
    exact ⟨fun e => HSL.out.2.2 e.symm, ht _ _ _ _ (by decide) R.raw.words, ht _ _ _ _ (by decide) R.raw.watch, ht _ _ _ _ (by decide) R.raw.hit⟩)
  obtain ⟨RR, hRR⟩ : ∃ r, Ir.runRows W (Ir.mc0 s).X m rows = r := ⟨_, rfl⟩
  rw [hRR]
  have HRR := Lib.hid hRR
  clear V hin hS hRng R hW h0 hka hRR
  unfold rendC at HB0 HK0
  go_enter Tryz.func27, Tryz.ntmps27
  go_upto_region 1 with fail
  obtain ⟨eb, heb⟩ : ∃ b, w.heap.size = b := ⟨_, rfl⟩
  have HEB := Lib.hid heb
  rw [heb] at HB0 HSL ⊢
  clear heb
  generalize w.alloc _ = w1 at *
  have HEB1 := Lib.hid (show REndBox w1 eb false 0 false from HB0.out)
  go_wp2_with fail
  refine (rnewMachine_any sb q wb tb hb m wt ht s w1 (HS.out.keep HK0.out (fun h => h)) (HR.out.keep HK0.out ⟨fun h => h, fun h => h, fun h => h, fun h => h⟩) H0.out).mono ?_
  rintro e w2 ⟨mb, q2, wb2, tb2, hb2, rfl, hM2, hk2⟩
  obtain ⟨B, hB⟩ : ∃ B, w1.heap.size = B := ⟨_, rfl⟩
  rw [hB] at hM2
  have HM2 := Lib.hid hM2
  have HK2 := Lib.hid (HK0.out.trans hk2 (fun _ _ h => h))
  have HEB2 := Lib.hid (HEB1.out.keep hk2 (fun h => h))
  have HBB := Lib.hid (show eb < B ∧ B ≤ w2.heap.size ∧ w.heap.size ≤ B from ⟨by rw [← hB]; exact HEB1.out.lt, by rw [← hB]; exact hk2.size, by rw [← hB]; exact HK0.out.size⟩)
  clear hM2 hk2 hB
  go_wp2_with fail
  go_loopw [10] (fun s10 wr => ∃ i : Nat, i ≤ n ∧ s10 = .int .i64 i ∧ ∃ X mem, RefM wr B mb q2 wb2 tb2 hb2 X mem wt ht ∧ Xok X ∧ X 0 = 0 ∧ RR = Ir.runRows W X mem (rows.drop i) ∧ Keeps (fun b => B ≤ b) w2 wr) (fun s10 _ => n - (intOf s10).toNat)
  case atStart => exact ⟨0, by omega, rfl, _, _, HM2.out, HX0.out, HX00.out, HRR.out.symm, Keeps.refl _ _⟩
  case round =>
    obtain ⟨i, hi, rfl, X, mem, hM, hX, hX0, hres, hK⟩ := hrel
    have HM := Lib.hid hM
    have HXO := Lib.hid hX
    have HXZ := Lib.hid hX0
    have HRES := Lib.hid hres
    have HK := Lib.hid hK
    have HKF := Lib.hid (show Keeps (fun _ => False) w wr from HK2.out.trans hK (fun b hb h => by have h : B ≤ b := h; have := HBB.out; omega))
    have HEBr := Lib.hid (HEB2.out.keep hK (fun h => by have h : B ≤ eb := h; have := HBB.out; omega))
    clear hM hX hX0 hres hK
    by_cases hlt : i < n
    · obtain ⟨rb, ro, Ai, ci, rfl, rc, hOP, hci⟩ := (HV.out.quiet HKF.out).get hlt
      have hil : i < rows.length := by rw [HLEN.out]; exact hlt
      have HDR := Lib.hid (show rows.drop i = rows.getD i [] :: rows.drop (i + 1) by
        rw [List.drop_eq_getElem_cons hil, List.getD_eq_getElem?_getD, List.getElem?_eq_getElem hil]
        rfl)
      have hiR := HIN.out (rows.getD i []) (by rw [List.getD_eq_getElem?_getD, List.getElem?_eq_getElem hil]; exact List.getElem_mem hil)
      have HIR := Lib.hid hiR.1
      have hrl := hiR.2
      obtain ⟨row, hrow⟩ : ∃ row, rows.getD i [] = row := ⟨_, rfl⟩
      have HROWE := Lib.hid hrow
      rw [hrow] at rc hOP HDR HIR hrl
      clear hrow hiR
      obtain ⟨nr, hnr⟩ : ∃ k, row.length = k := ⟨_, rfl⟩
      rw [hnr] at rc hOP hrl
      have HNR := Lib.hid hnr
      have HOP := Lib.hid hOP
      have HRES1 := Lib.hid (show RR = Ir.runRows W X mem (row :: rows.drop (i + 1)) by rw [HRES.out, HDR.out])
      obtain ⟨C, hC⟩ : ∃ C, wr.heap.size = C := ⟨_, rfl⟩
      have HCC := Lib.hid (show B ≤ C ∧ mb < C ∧ q2 < C ∧ wb2 < C ∧ tb2 < C ∧ hb2 < C from by
        rw [← hC]
        exact ⟨Nat.le_trans HBB.out.2.1 HK.out.size, HM.out.mach.lt, (Array.getElem?_eq_some_iff.1 HM.out.ram.raw.box).1, HM.out.ram.raw.words.lt, HM.out.ram.raw.watch.lt, HM.out.ram.raw.hit.lt⟩)
      have HCE := Lib.hid hC
      have HRC := Lib.hid rc
      have HO0 := Lib.hid (World.ownsRow_nil wr C 130 4)
      have hi63 : (i : Int) < n := by omega
      clear hnr hOP hC HRES HDR
      generalize wr = wo at *
      go_wp2_with fail
      go_loopw [11, 12] (fun s11 s12 wl => ∃ k : Nat, k ≤ nr ∧ s12 = .int .i64 k ∧ ∃ Al cl, s11 = .slice Al k cl ∧ wl.ownsRow C 130 4 (.slice Al k cl) k (resL (Ir.resUp X mem W row k)) ∧ (∀ j, j < k → (Ir.resOf X mem W (row.getD j Ir.nop)).trap = false) ∧ Keeps (fun b => C ≤ b) wo wl) (fun _ s12 _ => nr - (intOf s12).toNat)
      case atStart => exact ⟨0, by omega, rfl, none, 0, rfl, HO0.out, fun j hj => absurd hj (by omega), Keeps.refl _ _⟩
      case round =>
        obtain ⟨k, hk, rfl, Al, cl, rfl, hOW, hNT, hKl⟩ := hrel
        have HOW := Lib.hid hOW
        have HNT := Lib.hid hNT
        have HKL := Lib.hid hKl
        have HKLF := Lib.hid (show Keeps (fun _ => False) wo wr from hKl.mono (fun b hb h => by have h : C ≤ b := h; have := HCE.out; omega))
        have rc := HKLF.out.cell' HRC.out (fun f => f)
        clear hOW hNT hKl
        by_cases hkl : k < nr
        · obtain ⟨ob, oo, rfl, e0, e1, e2, e3, e4, e5⟩ := (HOP.out.quiet HKLF.out).get hkl
          have hkr : k < row.length := by rw [HNR.out]; exact hkl
          have HOI := Lib.hid (HIR.out _ (getD_mem hkr))
          have HUS := Lib.hid (Ir.resUp_step X mem W row k hkr)
          have HTA := Lib.hid (fun ht => Ir.trapOf_at (X := X) (m := mem) (W := W) row k hkr HNT.out ht)
          obtain ⟨op, hop⟩ : ∃ op, row.getD k Ir.nop = op := ⟨_, rfl⟩
          rw [hop] at e0 e1 e2 e3 e4 e5 HOI HUS HTA
          have HGD := Lib.hid hop
          clear hop
          have HRO := Lib.hid (fun w' (kk : Keeps (fun _ => False) wr w') => resultOf_any X op q2 wb2 tb2 hb2 mem wt ht W w' (HM.out.ram.keep (HKLF.out.trans kk (fun _ _ h => h)) ⟨fun h => h, fun h => h, fun h => h, fun h => h⟩) HW.out HXO.out HOI.out)
          obtain ⟨rr, hrr⟩ : ∃ r, Ir.resOf X mem W op = r := ⟨_, rfl⟩
          rw [hrr] at HRO HTA
          have HRR2 := Lib.hid hrr
          have hMl := HM.out.quiet HKLF.out
          have HRG := Lib.hid hMl.mach.range
          have hrg := hMl.mach.range
          have hm64 := hMl.mach.ram
          have hu := Tryz.underlying132
          have hsz : (Tryz.prog.info? 132).map (·.size) = some (regL X).length := by rw [regL_len]; kernel_rfl
          obtain ⟨ok, od, oa, ob2, oim, oat⟩ := op
          simp only at e0 e1 e2 e3 e4 e5
          clear hrr hMl
          have hk63 : (k : Int) < nr := by omega
          go_upto_region 9 with fail
          go_region_held3 (fun w' => Keeps (fun _ => False) wr w' ∧ w'.rangeAt mb 0 (regL X) ∧ w'.cell? ⟨mb, 64, none⟩ = some (.pointer (some ⟨q2, 0, none⟩)) ∧ w'.cell? ⟨rb, ro + i, none⟩ = some (.slice (some ⟨ob, oo, none⟩) nr ci) ∧ w'.cell? ⟨ob, oo + k * 6, none⟩ = some (.string ok) ∧ w'.cell? ⟨ob, oo + k * 6 + 1, none⟩ = some (.int .i64 od) ∧ w'.cell? ⟨ob, oo + k * 6 + 2, none⟩ = some (.int .i64 oa) ∧ w'.cell? ⟨ob, oo + k * 6 + 3, none⟩ = some (.int .i64 ob2) ∧ w'.cell? ⟨ob, oo + k * 6 + 4, none⟩ = some (.int .u32 oim) ∧ w'.cell? ⟨ob, oo + k * 6 + 5, none⟩ = some (.int .i64 oat))
            (first | (refine ⟨?_, ?_, ?_, ?_, ?_, ?_, ?_, ?_, ?_, ?_⟩ <;> first | ((repeat (first | (with_reducible assumption) | (with_reducible (exact Keeps.refl _ _)) | (with_reducible (apply Keeps.drew)) | (with_reducible (apply Keeps.alloc)) | (refine Keeps.setCell (S := fun _ => False) (a := ⟨_, _, none⟩) ?_ (fun hh => (Nat.lt_irrefl _ (Nat.lt_of_lt_of_le hh (show wr.heap.size ≤ _ by first | exact Nat.le_refl _ | assumption))).elim) _))); done) | (refine range_keepR (w := wr) (by assumption) ?_; (repeat (first | (with_reducible assumption) | (with_reducible (exact Keeps.refl _ _)) | (with_reducible (apply Keeps.drew)) | (with_reducible (apply Keeps.alloc)) | (refine Keeps.setCell (S := fun _ => False) (a := ⟨_, _, none⟩) ?_ (fun hh => (Nat.lt_irrefl _ (Nat.lt_of_lt_of_le hh (show wr.heap.size ≤ _ by first | exact Nat.le_refl _ | assumption))).elim) _))); done) | (refine Keeps.cell' (S := fun _ => False) (w := wr) ?_ (by assumption) (fun f => f); (repeat (first | (with_reducible assumption) | (with_reducible (exact Keeps.refl _ _)) | (with_reducible (apply Keeps.drew)) | (with_reducible (apply Keeps.alloc)) | (refine Keeps.setCell (S := fun _ => False) (a := ⟨_, _, none⟩) ?_ (fun hh => (Nat.lt_irrefl _ (Nat.lt_of_lt_of_le hh (show wr.heap.size ≤ _ by first | exact Nat.le_refl _ | assumption))).elim) _))); done)) | (trace_state; fail))
            (first | (go_at_call 64; refine (HRO.out _ (by (repeat (first | (with_reducible assumption) | (with_reducible (exact Keeps.refl _ _)) | (with_reducible (apply Keeps.drew)) | (with_reducible (apply Keeps.alloc)) | (refine Keeps.setCell (S := fun _ => False) (a := ⟨_, _, none⟩) ?_ (fun hh => (Nat.lt_irrefl _ (Nat.lt_of_lt_of_le hh (show wr.heap.size ≤ _ by first | exact Nat.le_refl _ | assumption))).elim) _))); done)).mono ?_; rintro e w5 ⟨rfl, hk5⟩; unfold resC; have hq5 : Keeps (fun _ => False) wr w5 := Keeps.trans (by (repeat (first | (with_reducible assumption) | (with_reducible (exact Keeps.refl _ _)) | (with_reducible (apply Keeps.drew)) | (with_reducible (apply Keeps.alloc)) | (refine Keeps.setCell (S := fun _ => False) (a := ⟨_, _, none⟩) ?_ (fun hh => (Nat.lt_irrefl _ (Nat.lt_of_lt_of_le hh (show wr.heap.size ≤ _ by first | exact Nat.le_refl _ | assumption))).elim) _))); done) hk5 (fun _ _ h => h); have hs5 := hq5.size; first | (have hz5 : ResBox w5 wr.heap.size nores := (ResBox.new wr.drew nores).keep hk5 (fun h => h); obtain ⟨⟨hy0, hy1, hy2, hy3⟩, hf0, hf1, hf2, hf3⟩ := hz5.cells) | skip))
          · rename_i hh
            have K6 := hh.1
            have o5 := hh.2.2.2.2.2.2.2.2.2
            have hz : ResBox (w5.alloc (.cells #[.int .u32 rr.v, .int .u32 rr.addr, .bool rr.trap, .bool rr.leave] 130)) w5.heap.size rr := ResBox.new w5 rr
            clear hh
            generalize w5.alloc _ = w6 at *
            generalize w5.heap.size = z at *
            obtain ⟨rv, ra, rt, rl⟩ := rr
            have HK6 := Lib.hid K6
            have HKO6 := Lib.hid (HKLF.out.trans K6 (fun _ _ h => h))
            have HZ := Lib.hid hz
            obtain ⟨⟨z0, z1, z2, z3⟩, _⟩ := hz.cells
            simp only at z0 z1 z2 z3
            clear hq5 hk5 hs5 hrg hm64 K6 hz
            cases rt
            · have HNT6 := Lib.hid (show ∀ j, j < k + 1 → (Ir.resOf X mem W (row.getD j Ir.nop)).trap = false from fun j hj => by
                by_cases hjk : j < k
                · exact HNT.out j hjk
                · obtain rfl : j = k := by omega
                  rw [HGD.out, HRR2.out])
              have hOW6 := owns_keep HOW.out HK6.out (fun _ _ h => h)
              have HQ := Lib.hid (hOW6.alloc (.cells #[.int .u32 rv, .int .u32 ra, .bool false, .bool rl] 130))
              have HCN := Lib.hid (fun j u hj => cells_new w6 [.int .u32 rv, .int .u32 ra, .bool false, .bool rl] 130 j u hj)
              have HONE : Hid (∀ u ∈ [Value.int .u32 rv, .int .u32 ra, .bool false, .bool rl], u.oneCell' = true) := Lib.hid (by
                intro u hu
                simp only [List.mem_cons, List.not_mem_nil, or_false] at hu
                rcases hu with rfl | rfl | rfl | rfl <;> rfl)
              have HBS := Lib.hid (show C ≤ (w6.alloc (.cells #[.int .u32 rv, .int .u32 ra, .bool false, .bool rl] 130)).heap.size by
                rw [nblk_alloc]
                have := HKO6.out.size
                have := HCE.out
                omega)
              have HKA := Lib.hid ((HK6.out.alloc (.cells #[.int .u32 rv, .int .u32 ra, .bool false, .bool rl] 130)))
              have hmx : k + 1 ≤ maxLen := by unfold maxLen; omega
              have HLL := Lib.hid (show (resL (Ir.resUp X mem W row k)).length = k * 4 by
                rw [resL_len, Ir.resUp_len X mem W row k (by rw [HNR.out]; exact Nat.le_of_lt hkl)])
              clear hOW6
              go_wp2_with (at_builtin; go_loud (refine wpList_append_own _ rfl _ _ 128 rfl C 130 i0 _ 4 12 Tryz.underlying128 hinf hz0 hz1 hz2 rfl (by decide) (.slice Al k cl) k (resL (Ir.resUp X mem W row k)) rfl HQ.out ⟨w6.heap.size, 0, none⟩ 1 1 [.int .u32 rv, .int .u32 ra, .bool false, .bool rl] rfl rfl HCN.out HONE.out hmx (by omega) HBS.out ?c0))
              case c0 =>
                intro v' w7 hown hgrow hnil
                obtain ⟨A2, cap2, rfl⟩ := owns_slice hown
                have hlq := HQ.out.lt
                have HK7 := Lib.hid (show Keeps (fun b => C ≤ b) wo w7 from HKL.out.trans (((HKA.out.mono (T := fun b => C ≤ b) (fun _ _ h => h.elim)).grown hgrow (fun g hg _ => (hlq g hg).1))) (fun _ _ h => h))
                have HO7 := Lib.hid (show w7.ownsRow C 130 4 (.slice A2 (k + 1) cap2) (k + 1) (resL (Ir.resUp X mem W row (k + 1))) from by
                  rw [HUS.out, HRR2.out, resL_snoc]
                  exact hown)
                clear hown hgrow hnil hlq z0 z1 z2 z3 o5
                go_wp2_with fail
                go_roundw
                case rel => exact ⟨k + 1, by omega, by go_num, A2, cap2, rfl, HO7.out, HNT6.out, HK7.out⟩
                case measure => simp [intOf]; omega
            · have HTR := Lib.hid (show RR = .trap oat by
                rw [HRES1.out]
                exact Ir.runRows_trap (HTA.out rfl))
              have HE6 := Lib.hid (HEBr.out.keep HKO6.out (fun h => h))
              obtain ⟨f0, f1, f2⟩ := HE6.out.frozen
              obtain ⟨g0, g1, g2⟩ := HE6.out.cells
              obtain ⟨hq1, hq2⟩ := HE6.out.put (t' := true) (a' := oat) (f' := false)
              have HP := Lib.hid hq1
              have HPK := Lib.hid hq2
              have rc6 := HK6.out.cell' rc (fun f => f)
              clear hq1 hq2 e0 e1 e2 e3 e4 e5
              go_wp2_with fail
              refine bodyPost_ret (results_cell_row rfl _ _ eb 68 (rendC true oat false) (0, 0) _ rfl HP.out.blk Tryz.underlying68 rfl size_rend) rfl ?_
              rw [HTR.out]
              exact ⟨rfl, (HKF.out.trans HKO6.out (fun _ _ h => h)).trans HPK.out (fun b hb e => by have e : b = eb := e; have := HEB.out; omega)⟩
          · rename_i hh
            have K6 := hh.1
            have o5 := hh.2.2.2.2.2.2.2.2.2
            have hz := (hz5.put (r' := rr)).1
            clear hh hz5 hy0 hy1 hy2 hy3 hf0 hf1 hf2 hf3
            generalize World.setCell (World.setCell (World.setCell (World.setCell w5 _ _) _ _) _ _) _ _ = w6 at *
            generalize wr.heap.size = z at *
            obtain ⟨rv, ra, rt, rl⟩ := rr
            have HK6 := Lib.hid K6
            have HKO6 := Lib.hid (HKLF.out.trans K6 (fun _ _ h => h))
            have HZ := Lib.hid hz
            obtain ⟨⟨z0, z1, z2, z3⟩, _⟩ := hz.cells
            simp only at z0 z1 z2 z3
            clear hq5 hk5 hs5 hrg hm64 K6 hz
            cases rt
            · have HNT6 := Lib.hid (show ∀ j, j < k + 1 → (Ir.resOf X mem W (row.getD j Ir.nop)).trap = false from fun j hj => by
                by_cases hjk : j < k
                · exact HNT.out j hjk
                · obtain rfl : j = k := by omega
                  rw [HGD.out, HRR2.out])
              have hOW6 := owns_keep HOW.out HK6.out (fun _ _ h => h)
              have HQ := Lib.hid (hOW6.alloc (.cells #[.int .u32 rv, .int .u32 ra, .bool false, .bool rl] 130))
              have HCN := Lib.hid (fun j u hj => cells_new w6 [.int .u32 rv, .int .u32 ra, .bool false, .bool rl] 130 j u hj)
              have HONE : Hid (∀ u ∈ [Value.int .u32 rv, .int .u32 ra, .bool false, .bool rl], u.oneCell' = true) := Lib.hid (by
                intro u hu
                simp only [List.mem_cons, List.not_mem_nil, or_false] at hu
                rcases hu with rfl | rfl | rfl | rfl <;> rfl)
              have HBS := Lib.hid (show C ≤ (w6.alloc (.cells #[.int .u32 rv, .int .u32 ra, .bool false, .bool rl] 130)).heap.size by
                rw [nblk_alloc]
                have := HKO6.out.size
                have := HCE.out
                omega)
              have HKA := Lib.hid ((HK6.out.alloc (.cells #[.int .u32 rv, .int .u32 ra, .bool false, .bool rl] 130)))
              have hmx : k + 1 ≤ maxLen := by unfold maxLen; omega
              have HLL := Lib.hid (show (resL (Ir.resUp X mem W row k)).length = k * 4 by
                rw [resL_len, Ir.resUp_len X mem W row k (by rw [HNR.out]; exact Nat.le_of_lt hkl)])
              clear hOW6
              go_wp2_with (at_builtin; go_loud (refine wpList_append_own _ rfl _ _ 128 rfl C 130 i0 _ 4 12 Tryz.underlying128 hinf hz0 hz1 hz2 rfl (by decide) (.slice Al k cl) k (resL (Ir.resUp X mem W row k)) rfl HQ.out ⟨w6.heap.size, 0, none⟩ 1 1 [.int .u32 rv, .int .u32 ra, .bool false, .bool rl] rfl rfl HCN.out HONE.out hmx (by omega) HBS.out ?c0))
              case c0 =>
                intro v' w7 hown hgrow hnil
                obtain ⟨A2, cap2, rfl⟩ := owns_slice hown
                have hlq := HQ.out.lt
                have HK7 := Lib.hid (show Keeps (fun b => C ≤ b) wo w7 from HKL.out.trans (((HKA.out.mono (T := fun b => C ≤ b) (fun _ _ h => h.elim)).grown hgrow (fun g hg _ => (hlq g hg).1))) (fun _ _ h => h))
                have HO7 := Lib.hid (show w7.ownsRow C 130 4 (.slice A2 (k + 1) cap2) (k + 1) (resL (Ir.resUp X mem W row (k + 1))) from by
                  rw [HUS.out, HRR2.out, resL_snoc]
                  exact hown)
                clear hown hgrow hnil hlq z0 z1 z2 z3 o5
                go_wp2_with fail
                go_roundw
                case rel => exact ⟨k + 1, by omega, by go_num, A2, cap2, rfl, HO7.out, HNT6.out, HK7.out⟩
                case measure => simp [intOf]; omega
            · have HTR := Lib.hid (show RR = .trap oat by
                rw [HRES1.out]
                exact Ir.runRows_trap (HTA.out rfl))
              have HE6 := Lib.hid (HEBr.out.keep HKO6.out (fun h => h))
              obtain ⟨f0, f1, f2⟩ := HE6.out.frozen
              obtain ⟨g0, g1, g2⟩ := HE6.out.cells
              obtain ⟨hq1, hq2⟩ := HE6.out.put (t' := true) (a' := oat) (f' := false)
              have HP := Lib.hid hq1
              have HPK := Lib.hid hq2
              have rc6 := HK6.out.cell' rc (fun f => f)
              clear hq1 hq2 e0 e1 e2 e3 e4 e5
              go_wp2_with fail
              refine bodyPost_ret (results_cell_row rfl _ _ eb 68 (rendC true oat false) (0, 0) _ rfl HP.out.blk Tryz.underlying68 rfl size_rend) rfl ?_
              rw [HTR.out]
              exact ⟨rfl, (HKF.out.trans HKO6.out (fun _ _ h => h)).trans HPK.out (fun b hb e => by have e : b = eb := e; have := HEB.out; omega)⟩
        · obtain rfl : k = nr := by omega
          have HTN := Lib.hid (show Ir.trapOf X mem W row = none from Ir.trapOf_none row (fun j hj => HNT.out j (by rw [← HNR.out]; exact hj)))
          have HON := Lib.hid (show RR = (match Ir.levUp X mem W row k with | some pc => Ir.REnd.leave pc (Ir.rowUp X mem W row k).1 (Ir.rowUp X mem W row k).2 | none => Ir.runRows W (Ir.rowUp X mem W row k).1 (Ir.rowUp X mem W row k).2 (rows.drop (i + 1))) by
            rw [HRES1.out, Ir.runRows_on HTN.out, HNR.out]
            cases Ir.levUp X mem W row k <;> rfl)
          have HUL := Lib.hid (Ir.resUp_len X mem W row k (by rw [HNR.out]; exact Nat.le_refl _))
          have HROW := Lib.hid (show Ir.resUp X mem W row k = [] ∨ ∃ g, Al = some ⟨g, 0, none⟩ ∧ C ≤ g ∧ g < wr.heap.size ∧ ResRow wr g (Ir.resUp X mem W row k) from
            ResRow.of_owns (cap := cl) (B := C) (by rw [HUL.out]; exact HOW.out))
          have HUG := Lib.hid (fun j (hj : j < k) => Ir.resUp_get X mem W row k j hj (by rw [HNR.out]; exact Nat.le_refl _))
          have HMr := Lib.hid (HM.out.quiet HKLF.out)
          have HKW := Lib.hid (HKF.out.trans HKLF.out (fun _ _ h => h))
          have HK3 := Lib.hid (show Keeps (fun b => B ≤ b) w2 wr from HK.out.trans (HKLF.out.mono (T := fun b => B ≤ b) (fun _ _ h => h.elim)) (fun _ _ h => h))
          have HE3 := Lib.hid (HEBr.out.keep HKLF.out (fun h => h))
          have HRGE := Lib.hid HM.out.ram.rng
          generalize hgr : Ir.resUp X mem W row k = rl at *
          have HKLFS := Lib.hid HKLF.out.size
          clear hgr HOW HKLF HKL HOP
          have HC3 := Lib.hid (show C ≤ wr.heap.size by have := HKLFS.out; have := HCE.out; omega)
          generalize wr = w3 at *
          go_wp2_with fail
          go_loopw [14, 15] (fun s14 s15 wl => ∃ j : Nat, j ≤ k ∧ s15 = .int .i64 j ∧ s14 = .int .i64 (Ir.encL (Ir.levUp X mem W row j)) ∧ RefM wl B mb q2 wb2 tb2 hb2 (Ir.rowUp X mem W row j).1 (Ir.rowUp X mem W row j).2 wt ht ∧ Xok (Ir.rowUp X mem W row j).1 ∧ (Ir.rowUp X mem W row j).1 0 = 0 ∧ (∀ a, Ir.levUp X mem W row j = some a → 0 ≤ a ∧ a < 4294967296) ∧ Keeps (fun b => b = mb ∨ b = wb2 ∨ b = hb2) w3 wl) (fun _ s15 _ => k - (intOf s15).toNat)
          case atStart =>
            have e0 : Ir.rowUp X mem W row 0 = (X, mem) := by
              unfold Ir.rowUp
              rw [List.take_zero]
              rfl
            have e1 : Ir.levUp X mem W row 0 = none := by
              unfold Ir.levUp
              rw [List.take_zero]
              rfl
            refine ⟨0, by omega, rfl, by rw [e1]; rfl, ?_, ?_, ?_, ?_, Keeps.refl _ _⟩
            · rw [e0]; exact HMr.out
            · rw [e0]; exact HXO.out
            · rw [e0]; exact HXZ.out
            · rw [e1]; exact fun a ha => (by cases ha)
          case round =>
            obtain ⟨j, hj, rfl, rfl, hM2, hX2, hZ2, hLV, hK2⟩ := hrel
            have HM2' := Lib.hid hM2
            have HX2 := Lib.hid hX2
            have HZ2 := Lib.hid hZ2
            have HLV := Lib.hid hLV
            have HK2' := Lib.hid hK2
            have HKB2 := Lib.hid (show Keeps (fun b => B ≤ b) w2 wr from HK3.out.trans hK2 (fun b hb h => by have := hM2.low; rcases h with h | h | h <;> (show B ≤ b; omega)))
            have HKW2 := Lib.hid (show Keeps (fun _ => False) w wr from HK2.out.trans HKB2.out (fun b hb h => by have h : B ≤ b := h; have := HBB.out; omega))
            clear hM2 hX2 hZ2 hLV hK2
            by_cases hjk : j < k
            · obtain ⟨rb2, ro2, Ai2, ci2, hA2, rc, hOP2, hci2⟩ := (HV.out.quiet HKW2.out).get hlt
              injection hA2 with hA2
              injection hA2 with h1 h2
              subst h1 h2
              have HRW := Lib.hid (show rows.getD i [] = row from HROWE.out)
              rw [HRW.out] at rc hOP2
              rw [HNR.out] at rc hOP2
              obtain ⟨ob, oo, rfl, e0, e1, e2, e3, e4, e5⟩ := hOP2.get hjk
              have hjr : j < row.length := by rw [HNR.out]; exact hjk
              have HOI := Lib.hid (HIR.out _ (getD_mem hjr))
              have HRU := Lib.hid (Ir.rowUp_step X mem W row j hjr)
              have HLU := Lib.hid (Ir.levUp_step X mem W row j hjr)
              have HNTJ := Lib.hid (HNT.out j hjk)
              have HUGJ := Lib.hid (HUG.out j hjk)
              have HRESR := Lib.hid (Ir.res_rng (X := X) (m := mem) (W := W) HXO.out HRGE.out HOI.out)
              have HSTR := Lib.hid (fun h6 => Ir.res_store (X := X) (m := mem) (W := W) (o := row.getD j Ir.nop) h6 HNTJ.out)
              have HSTY := Lib.hid (fun h => Ir.res_stay (X := X) (m := mem) (W := W) (p := row.getD j Ir.nop) h)
              obtain ⟨op, hop⟩ : ∃ op, row.getD j Ir.nop = op := ⟨_, rfl⟩
              rw [hop] at e0 e1 e2 e3 e4 e5 HOI HRU HLU HNTJ HUGJ HRESR HSTR HSTY
              obtain ⟨rr, hrr⟩ : ∃ r, Ir.resOf X mem W op = r := ⟨_, rfl⟩
              rw [hrr] at HRU HLU HNTJ HUGJ HRESR HSTR HSTY
              have HRRE := Lib.hid hrr
              clear hop hrr
              obtain ⟨g, hAl, hCg, hgw, hRow⟩ : ∃ g, Al = some ⟨g, 0, none⟩ ∧ C ≤ g ∧ g < w3.heap.size ∧ ResRow w3 g rl := by
                rcases HROW.out with h | h
                · have := HUL.out
                  rw [h] at this
                  simp at this
                  omega
                · exact h
              subst hAl
              have hgs : ¬ (g = mb ∨ g = wb2 ∨ g = hb2) := by have := HCC.out; omega
              have hRowr := hRow.keep HK2'.out hgs
              have hjl : j < rl.length := by rw [HUL.out]; exact hjk
              have z0 := hRowr.v j hjl
              have z1 := hRowr.addr j hjl
              have z3 := hRowr.leave j hjl
              rw [HUGJ.out] at z0 z1 z3
              have HZC := Lib.hid (And.intro z0 (And.intro z1 z3))
              have HGS := Lib.hid (show g ≠ mb ∧ g ≠ wb2 ∧ g ≠ hb2 by omega)
              clear hRow hRowr hgs hCg hgw hOP2 hci2
              obtain ⟨ok, od, oa, ob2, oim, oat⟩ := op
              simp only at e0 e1 e2 e3 e4 e5
              have hj63 : (j : Int) < k := by omega
              have HWO := Lib.hid (fun w => writeOf_any (⟨ok, od, oa, ob2, oim, oat⟩ : Ir.Op) w)
              have h6 := is_store ok
              have HOPN := Lib.hid (op_new wr ok od oa ob2 oim oat 100)
              go_upto_region 18 with fail
              obtain ⟨hopa, hopk⟩ := HOPN.out
              have HOPA := Lib.hid hopa
              have HK4 := Lib.hid hopk
              clear HOPN
              generalize wr.alloc _ = w4 at *
              obtain ⟨xo, hxo⟩ : ∃ x, wr.heap.size = x := ⟨_, rfl⟩
              rw [hxo] at hopa HOPA ⊢
              have HXOX := Lib.hid (show C ≤ xo by
                rw [← hxo]
                have := HKW2.out.size
                have := HK2'.out.size
                have := HC3.out
                omega)
              clear hxo
              obtain ⟨v0, v1, v2, v3, v4, v5⟩ := hopa
              simp only at v0 v1 v2 v3 v4 v5
              clear hopk e0 e1 e2 e3 e4 e5 rc z0 z1 z3
              go_wp2_with fail
              refine (HWO.out _).mono ?_
              rintro e w5 ⟨rfl, hk5⟩
              have HK5 := Lib.hid (HK4.out.trans hk5 (fun _ _ h => h))
              have HOP5 := Lib.hid (HOPA.out.keep hk5 (fun h => h))
              have HM5 := Lib.hid (HM2'.out.quiet HK5.out)
              clear hk5 v0 v1 v2 v3 v4 v5
              have HXJ := Lib.hid (show Xok (Ir.rowUp X mem W row (j + 1)).1 by
                rw [HRU.out, ← HRRE.out]
                exact Xok.apply HXO.out HX2.out HRGE.out HOI.out)
              have HZJ := Lib.hid (show (Ir.rowUp X mem W row (j + 1)).1 0 = 0 by
                rw [HRU.out]
                exact apply0.trans HZ2.out)
              obtain ⟨z0', z1', z3'⟩ := HZC.out
              have z0 := HK5.out.cell' z0' (fun f => f)
              have z1 := HK5.out.cell' z1' (fun f => f)
              have z3 := HK5.out.cell' z3' (fun f => f)
              clear z0' z1' z3'
              obtain ⟨v0, v1, v2, v3, v4, v5⟩ := HOP5.out
              simp only at v0 v1 v2 v3 v4 v5
              obtain ⟨rv, ra, rt, rl2⟩ := rr
              simp only at z0 z1 z3
              by_cases hd : 0 < Ir.writes (⟨ok, od, oa, ob2, oim, oat⟩ : Ir.Op)
              · obtain ⟨⟨hk6, hkl2⟩, hd64⟩ := Ir.writes_pos HOI.out hd
                have hlv : rl2 = false := HSTY.out hkl2
                subst hlv
                have HLE := Lib.hid (show Ir.encL (Ir.levUp X mem W row (j + 1)) = Ir.encL (Ir.levUp X mem W row j) by rw [HLU.out]; rfl)
                have HLJ := Lib.hid (show ∀ a, Ir.levUp X mem W row (j + 1) = some a → 0 ≤ a ∧ a < 4294967296 by rw [HLU.out]; exact HLV.out)
                have h6f : (ok.toList == [115, 116, 111, 114, 101]) = false := by rw [h6]; simpa using hk6
                obtain ⟨nd, hnd⟩ := Int.eq_ofNat_of_zero_le (Int.le_of_lt hd)
                rw [hnd] at hd hd64
                have hdt : decide ((0 : Int) < (nd : Int)) = true := decide_eq_true hd
                have hn64 : nd < 64 := by omega
                obtain ⟨hM6, hk6b⟩ := HM5.out.set nd hn64 rv
                obtain ⟨mc, mf⟩ := HM5.out.mach.reg nd hn64
                have HMJ := Lib.hid (show RefM (w5.setCell ⟨mb, nd, none⟩ (.int .u32 rv)).drew B mb q2 wb2 tb2 hb2 (Ir.rowUp X mem W row (j + 1)).1 (Ir.rowUp X mem W row (j + 1)).2 wt ht by
                  rw [HRU.out]
                  have e1 : Ir.applyX (Ir.rowUp X mem W row j).1 (⟨ok, od, oa, ob2, oim, oat⟩ : Ir.Op) ⟨rv, ra, rt, false⟩ = Ir.setX (Ir.rowUp X mem W row j).1 nd rv := by
                    unfold Ir.applyX
                    rw [hnd, if_pos hd]
                  have e2 : Ir.applyM (Ir.rowUp X mem W row j).2 (⟨ok, od, oa, ob2, oim, oat⟩ : Ir.Op) ⟨rv, ra, rt, false⟩ = (Ir.rowUp X mem W row j).2 := by
                    unfold Ir.applyM
                    exact if_neg hk6
                  rw [e1, e2]
                  exact hM6.quiet (Keeps.refl _ _).drew)
                have hKS : Keeps (fun b => b = mb ∨ b = wb2 ∨ b = hb2) w5 (w5.setCell ⟨mb, nd, none⟩ (.int .u32 rv)).drew := hk6b.drew.mono (fun _ _ h => Or.inl h)
                have HKJ := Lib.hid (HK2'.out.trans (Keeps.trans (HK5.out.mono (T := fun b => b = mb ∨ b = wb2 ∨ b = hb2) (fun _ _ h => h.elim)) hKS (fun _ _ h => h)) (fun _ _ h => h))
                have HO6 := Lib.hid (HOP5.out.keep hk6b.drew (fun e => by have e : xo = mb := e; have := HXOX.out; have := HM5.out.mach.lt; have := HCC.out; omega))
                have HZ6 := Lib.hid (hk6b.drew.cell' z3 (fun e => HGS.out.1 e))
                have hj0 : (0 : Int) ≤ (nd : Int) := by omega
                rw [hnd]
                clear hM6 hk6b hKS h6 hk6 hkl2
                go_wp2_with fail
                go_still_tail 10, (by kernel_rfl)
                change wpList _ _ _ _ _ w5.drew
                go_upto_region 21 with fail
                clear mc mf z0 z1 z3 v0 v1 v2 v3 v4 v5
                generalize (w5.setCell ⟨mb, nd, none⟩ (.int .u32 rv)).drew = w6 at *
                have z3 := HZ6.out
                obtain ⟨v0, v1, v2, v3, v4, v5⟩ := HO6.out
                simp only at v0 v1 v2 v3 v4 v5
                go_wp2_with fail
                go_roundw
                case rel => exact ⟨j + 1, by omega, by go_num, by rw [HLE.out], HMJ.out, HXJ.out, HZJ.out, HLJ.out, HKJ.out⟩
                case measure => simp [intOf]; omega
              · have hd0 : Ir.writes (⟨ok, od, oa, ob2, oim, oat⟩ : Ir.Op) = 0 := by have := Ir.writes_nneg HOI.out; omega
                rw [hd0]
                have hX1 : ∀ r, Ir.applyX (Ir.rowUp X mem W row j).1 (⟨ok, od, oa, ob2, oim, oat⟩ : Ir.Op) r = (Ir.rowUp X mem W row j).1 := fun r => by
                  unfold Ir.applyX
                  rw [if_neg hd]
                clear hd hd0
                by_cases hk6 : Ir.kn ok = 6
                · have hlv : rl2 = false := HSTY.out (by show Ir.leaves (Ir.kn ok) = false; rw [hk6]; decide)
                  subst hlv
                  have HLE := Lib.hid (show Ir.encL (Ir.levUp X mem W row (j + 1)) = Ir.encL (Ir.levUp X mem W row j) by rw [HLU.out]; rfl)
                  have HLJ := Lib.hid (show ∀ a, Ir.levUp X mem W row (j + 1) = some a → 0 ≤ a ∧ a < 4294967296 by rw [HLU.out]; exact HLV.out)
                  have h6t : (ok.toList == [115, 116, 111, 114, 101]) = true := by rw [h6, hk6]; rfl
                  obtain ⟨hrc, hwf⟩ := HSTR.out hk6
                  have hsz := HOI.out.sz hk6
                  simp only at hrc hwf hsz
                  have hrr := HRESR.out
                  simp only at hrr
                  obtain ⟨na, rfl⟩ := Int.eq_ofNat_of_zero_le hrr.2.1
                  obtain ⟨kd, rfl⟩ := Int.eq_ofNat_of_zero_le (show 0 ≤ od by omega)
                  have hna : na < 16384 := by have := rightC_ok hrc; omega
                  have hwt0 : wt (na / 256) = false := by
                    rw [HW.out (na / 256) (by omega), show ((na / 256 : Nat) : Int) = (na : Int) / 256 by omega]
                    exact hwf
                  have mm := HM5.out.mach.ram
                  have HST := Lib.hid (rstore_ok q2 wb2 tb2 hb2 (Ir.rowUp X mem W row j).2 wt ht na kd rv w5.drew (HM5.out.ram.keep (Keeps.refl (fun _ => False) w5).drew ⟨fun h => h, fun h => h, fun h => h, fun h => h⟩) hrr.1 hrc)
                  have HAPM := Lib.hid (show Ir.applyM (Ir.rowUp X mem W row j).2 (⟨ok, (kd : Int), oa, ob2, oim, oat⟩ : Ir.Op) ⟨rv, (na : Int), rt, false⟩ = stTo (Ir.rowUp X mem W row j).2 na kd rv kd by
                    unfold Ir.applyM
                    rw [if_pos hk6]
                    simp)
                  have HWT0 := Lib.hid hwt0
                  have HX1 := Lib.hid hX1
                  clear hrc hwf hsz hwt0 hX1 h6 hk6
                  go_wp2_with fail
                  go_still_tail 16, (by kernel_rfl)
                  change wpList _ _ _ _ _ w5.drew
                  go_wp2_with fail
                  refine HST.out.mono ?_
                  rintro e w6 ⟨rfl, hR6, hk6⟩
                  have HMJ := Lib.hid (show RefM w6 B mb q2 wb2 tb2 hb2 (Ir.rowUp X mem W row (j + 1)).1 (Ir.rowUp X mem W row (j + 1)).2 wt ht by
                    rw [HRU.out, HAPM.out, HX1.out]
                    obtain ⟨a1, a2, a3, a4⟩ := HM5.out.apart
                    refine ⟨(HM5.out.mach.keep (Keeps.refl (fun _ => False) w5).drew (fun h => h)).keep hk6 (fun e => by rcases e with e | e <;> omega), ⟨hR6.raw.congrT (fun _ _ => rfl) (fun p _ => by rw [HWT0.out, Bool.and_false, Bool.or_false]), hR6.rng⟩, HM5.out.low, HM5.out.apart⟩)
                  have hKS : Keeps (fun b => b = mb ∨ b = wb2 ∨ b = hb2) w5 w6 := Keeps.trans ((Keeps.refl _ w5).drew) hk6 (fun _ _ h => Or.inr h)
                  have HKJ := Lib.hid (HK2'.out.trans (Keeps.trans (HK5.out.mono (T := fun b => b = mb ∨ b = wb2 ∨ b = hb2) (fun _ _ h => h.elim)) hKS (fun _ _ h => h)) (fun _ _ h => h))
                  have z3b := hKS.cell' z3 (fun e => by have := HGS.out; rcases e with e | e | e <;> omega)
                  clear hR6 hk6 hKS z0 z1 z3 v0 v1 v2 v3 v4 v5 mm
                  go_wp2_with fail
                  go_roundw
                  case rel => exact ⟨j + 1, by omega, by go_num, by rw [HLE.out], HMJ.out, HXJ.out, HZJ.out, HLJ.out, HKJ.out⟩
                  case measure => simp [intOf]; omega
                · have h6f : (ok.toList == [115, 116, 111, 114, 101]) = false := by rw [h6]; simpa using hk6
                  have HMJ := Lib.hid (show RefM w5 B mb q2 wb2 tb2 hb2 (Ir.rowUp X mem W row (j + 1)).1 (Ir.rowUp X mem W row (j + 1)).2 wt ht by
                    have e2 : Ir.applyM (Ir.rowUp X mem W row j).2 (⟨ok, od, oa, ob2, oim, oat⟩ : Ir.Op) ⟨rv, ra, rt, rl2⟩ = (Ir.rowUp X mem W row j).2 := by
                      unfold Ir.applyM
                      exact if_neg hk6
                    rw [HRU.out, e2, hX1]
                    exact HM5.out)
                  have HKJ := Lib.hid (HK2'.out.trans (HK5.out.mono (T := fun b => b = mb ∨ b = wb2 ∨ b = hb2) (fun _ _ h => h.elim)) (fun _ _ h => h))
                  clear hX1 h6 hk6
                  cases rl2
                  · have HLE := Lib.hid (show Ir.encL (Ir.levUp X mem W row (j + 1)) = Ir.encL (Ir.levUp X mem W row j) by rw [HLU.out]; rfl)
                    have HLJ := Lib.hid (show ∀ a, Ir.levUp X mem W row (j + 1) = some a → 0 ≤ a ∧ a < 4294967296 by rw [HLU.out]; exact HLV.out)
                    go_wp2_with fail
                    go_roundw
                    case rel => exact ⟨j + 1, by omega, by go_num, by rw [HLE.out], HMJ.out, HXJ.out, HZJ.out, HLJ.out, HKJ.out⟩
                    case measure => simp [intOf]; omega
                  · have HLE := Lib.hid (show Ir.encL (Ir.levUp X mem W row (j + 1)) = ra by rw [HLU.out]; rfl)
                    have hra := HRESR.out.2
                    simp only at hra
                    have HLJ := Lib.hid (show ∀ a, Ir.levUp X mem W row (j + 1) = some a → 0 ≤ a ∧ a < 4294967296 by
                      rw [HLU.out]
                      intro a ha
                      injection ha with ha
                      subst ha
                      exact hra)
                    go_wp2_with fail
                    go_roundw
                    case rel => exact ⟨j + 1, by omega, by go_num, by rw [HLE.out], HMJ.out, HXJ.out, HZJ.out, HLJ.out, HKJ.out⟩
                    case measure => simp [intOf]; omega
            · obtain rfl : j = k := by omega
              have HONN := Lib.hid HON.out
              obtain ⟨lv, hlv⟩ : ∃ l, Ir.levUp X mem W row j = l := ⟨_, rfl⟩
              rw [hlv] at HONN HLV ⊢
              obtain ⟨Y, hY⟩ : ∃ Y, (Ir.rowUp X mem W row j).1 = Y := ⟨_, rfl⟩
              obtain ⟨mm, hmm⟩ : ∃ Y, (Ir.rowUp X mem W row j).2 = Y := ⟨_, rfl⟩
              rw [hY] at HONN HX2 HZ2
              rw [hmm] at HONN
              rw [hY, hmm] at HM2'
              clear hlv hY hmm HON HUG HUL HROW
              cases lv with
              | none =>
                have HRN := Lib.hid (show RR = Ir.runRows W Y mm (rows.drop (i + 1)) from HONN.out)
                clear HONN
                show Code.wp _ _ _ _ _
                have e9 : Ir.encL none = -1 := rfl
                rw [e9]
                go_wp2_with fail
                go_roundw
                case rel => exact ⟨i + 1, by omega, by go_num, Y, mm, HM2'.out, HX2.out, HZ2.out, HRN.out, HKB2.out⟩
                case measure => simp [intOf]; omega
              | some a =>
                have HRN := Lib.hid (show RR = .leave a Y mm from HONN.out)
                have ha := HLV.out a rfl
                have hal : decide (a < 0) = false := decide_eq_false (by omega)
                have e9 : Ir.encL (some a) = a := rfl
                rw [e9]
                have HSB := Lib.hid (show sb < B ∧ q < B ∧ sb ≠ q ∧ eb < B ∧ sb < eb ∧ q < eb by have := HSL.out; have := HBB.out; omega)
                have HNM := Lib.hid (show (sb ≠ mb ∧ sb ≠ q2 ∧ sb ≠ wb2 ∧ sb ≠ tb2 ∧ sb ≠ hb2) ∧ (q ≠ wb2 ∧ eb ≠ mb) by have := HM2'.out.low; have := HSB.out; omega)
                have HS4 := Lib.hid (HS.out.keep HKW2.out (fun h => h))
                have HSN := Lib.hid (show StAt wr sb { s with R := fun r => if 1 ≤ r ∧ r < 1 then Y r else s.R r } from by
                  rw [show (fun r => if 1 ≤ r ∧ r < 1 then Y r else s.R r) = s.R from funext fun r => if_neg (by omega)]
                  exact HS4.out)
                clear HONN HLV
                generalize wr = w4 at *
                go_wp2_with fail
                go_loopw [18] (fun s18 wl => ∃ k : Nat, 1 ≤ k ∧ k ≤ 32 ∧ s18 = .int .i64 k ∧ StAt wl sb { s with R := fun r => if 1 ≤ r ∧ r < k then Y r else s.R r } ∧ Keeps (fun b => b = sb) w4 wl) (fun s18 _ => 32 - (intOf s18).toNat)
                case atStart => exact ⟨1, by omega, by omega, rfl, HSN.out, Keeps.refl _ _⟩
                case round =>
                  obtain ⟨k, hk1, hk32, rfl, hSk, hKk⟩ := hrel
                  have HSK := Lib.hid hSk
                  have HKK := Lib.hid hKk
                  have HMK := Lib.hid (HM2'.out.keep hKk (fun b hb _ e => by have e : b = sb := e; have := HSB.out; omega))
                  clear hSk hKk
                  by_cases hlt2 : k < 32
                  · obtain ⟨c2, f2⟩ := HMK.out.mach.reg k (by omega)
                    have c1 := HSK.out.reg k hlt2
                    have f1 := HSK.out.frozen k
                    have q0 : 0 ≤ (k : Int) := by omega
                    have q1 : (k : Int) < 32 := by omega
                    have q2' : (k : Int) < 64 := by omega
                    have hS1 := HSK.out.setReg k hlt2 (Y k)
                    have HS1 := Lib.hid (show StAt (wr.setCell ⟨sb, k, none⟩ (.int .u32 (Y k))).drew sb { s with R := fun r => if 1 ≤ r ∧ r < k + 1 then Y r else s.R r } by
                      have e : (fun r => if 1 ≤ r ∧ r < k + 1 then Y r else s.R r) = (fun j => if j = k then Y k else (fun r => if 1 ≤ r ∧ r < k then Y r else s.R r) j) := by
                        funext r
                        by_cases h : r = k
                        · subst h
                          rw [if_pos (by omega), if_pos rfl]
                        · rw [if_neg h]
                          dsimp only
                          by_cases h2 : 1 ≤ r ∧ r < k
                          · rw [if_pos (by omega), if_pos h2]
                          · rw [if_neg (by omega), if_neg h2]
                      rw [e]
                      exact hS1.keep (Keeps.refl (fun _ => False) _).drew (fun h => h))
                    have HK1 := Lib.hid (HKK.out.trans (Keeps.one wr sb k (.int .u32 (Y k))).drew (fun _ _ h => h))
                    clear hS1
                    go_wp2_with fail
                    go_still_tail 11, (by kernel_rfl)
                    change wpList _ _ _ _ _ wr.drew
                    go_wp2
                    go_roundw
                    case rel => exact ⟨k + 1, by omega, by omega, by go_num, HS1.out, HK1.out⟩
                    case measure => simp [intOf]; omega
                  · obtain rfl : k = 32 := by omega
                    obtain ⟨s1, hs1⟩ : ∃ s1 : Cp.St, { s with R := fun r => if 1 ≤ r ∧ r < 32 then Y r else s.R r } = s1 := ⟨_, rfl⟩
                    rw [hs1] at HSK
                    have HS1E := Lib.hid hs1
                    have hcnt : s1.count = s.count := by rw [← hs1]
                    clear hs1
                    have hwr : IntKind.u32.wrap a = a := by rw [IntKind.wrap_u32]; omega
                    have hcr := HRNG.out.count
                    have hwc : IntKind.i64.wrap (s.count + many) = s.count + many := by rw [IntKind.wrap_i64]; omega
                    have hgo0 : decide ((32 : Int) < 32) = false := by decide
                    have f1 := HSK.out.frozen 32
                    obtain ⟨p0, _⟩ := HSK.out.cells
                    obtain ⟨c2, _⟩ := HMK.out.mach.reg 32 (by omega)
                    have HS0 := Lib.hid (HSK.out.set (s' := { s1 with hi := Y 32 }) 0 (.int .u32 (Y 32)) rfl rfl)
                    have HK0b := Lib.hid (HKK.out.trans (Keeps.one wr sb 32 (.int .u32 (Y 32))) (fun _ _ h => h))
                    go_upto_region 31 with fail
                    clear f1 p0 c2
                    generalize wr.setCell _ _ = w5 at *
                    have HM5b := Lib.hid (HM2'.out.keep HK0b.out (fun b hb _ e => by have e : b = sb := e; have := HSB.out; omega))
                    have f1 := HS0.out.frozen 33
                    obtain ⟨_, p0, _⟩ := HS0.out.cells
                    obtain ⟨c2, _⟩ := HM5b.out.mach.reg 33 (by omega)
                    have HS1 := Lib.hid (HS0.out.set (s' := { s1 with hi := Y 32, lo := Y 33 }) 1 (.int .u32 (Y 33)) rfl rfl)
                    have HK1b := Lib.hid (HK0b.out.trans (Keeps.one w5 sb 33 (.int .u32 (Y 33))) (fun _ _ h => h))
                    go_upto_region 32 with fail
                    clear f1 p0 c2
                    generalize w5.setCell _ _ = w6 at *
                    have f1 := HS1.out.frozen 34
                    obtain ⟨_, _, p0, _⟩ := HS1.out.cells
                    have HS2 := Lib.hid (HS1.out.set (s' := { s1 with hi := Y 32, lo := Y 33, pc := a }) 2 (.int .u32 a) rfl rfl)
                    have HK2b := Lib.hid (HK1b.out.trans (Keeps.one w6 sb 34 (.int .u32 a)) (fun _ _ h => h))
                    go_upto_region 33 with fail
                    clear f1 p0
                    generalize w6.setCell _ _ = w7 at *
                    -- next
                    have f1 := HS2.out.frozen 35
                    obtain ⟨_, _, p2, p3, _, _, _, _, _, _, p10⟩ := HS2.out.cells
                    go_wp2_with fail
                    refine (rplus_any a 4 _ ha (by omega)).mono ?_
                    rintro e w8 ⟨rfl, rfl⟩
                    have HS3 := Lib.hid (HS2.out.set (s' := { s1 with hi := Y 32, lo := Y 33, pc := a, next := (a + 4) % 4294967296 }) 3 (.int .u32 ((a + 4) % 4294967296)) rfl rfl)
                    have HK3' := Lib.hid (HK2b.out.trans (Keeps.one w7 sb 35 (.int .u32 ((a + 4) % 4294967296))) (fun _ _ h => h))
                    go_upto_region 34 with fail
                    clear f1 p2 p3 p10
                    generalize w7.setCell _ _ = w9 at *
                    have f1 := HS3.out.frozen 42
                    obtain ⟨_, _, _, _, _, _, _, _, _, _, p10⟩ := HS3.out.cells
                    simp only at p10
                    rw [hcnt] at p10
                    have HS4b := Lib.hid (HS3.out.set (s' := { s1 with hi := Y 32, lo := Y 33, pc := a, next := (a + 4) % 4294967296, count := s.count + many }) 10 (.int .i64 (s.count + many)) rfl rfl)
                    have HK4b := Lib.hid (HK3'.out.trans (Keeps.one w9 sb 42 (.int .i64 (s.count + many))) (fun _ _ h => h))
                    go_upto_region 35 with fail
                    clear f1 p10
                    generalize w9.setCell _ _ = w10 at *
                    have HM10 := Lib.hid (HM2'.out.keep HK4b.out (fun b hb _ e => by have e : b = sb := e; have := HSB.out; omega))
                    have HR10 := Lib.hid ((HR.out.keep HKW2.out ⟨fun h => h, fun h => h, fun h => h, fun h => h⟩).keep HK4b.out (HRS.out))
                    have c1 := HM10.out.mach.ram
                    have c2 := cell_at HM10.out.ram.raw.box 0
                    have c3 := cell_at HR10.out.raw.box 0
                    have f3 := frozen_of_block HR10.out.raw.box 0
                    have hbx := set_block HR10.out.raw.box 0 (.slice (some ⟨wb2, 0, none⟩) 4096 4096)
                    have hkq := Keeps.one w10 q 0 (.slice (some ⟨wb2, 0, none⟩) 4096 4096)
                    have HR11 := Lib.hid (show RefAt (w10.setCell ⟨q, 0, none⟩ (.slice (some ⟨wb2, 0, none⟩) 4096 4096)) q wb2 tb hb mm wt ht from by
                      obtain ⟨a1, a2, a3, a4, a5, a6⟩ := HR10.out.raw.apart
                      have hl := HM10.out.low
                      have hls := HSB.out
                      have h1 := HR.out.raw.watch.lt
                      have h2 := HR.out.raw.hit.lt
                      have h3 := HEB.out
                      exact ⟨⟨by simpa using hbx, hkq.rowTo HM10.out.ram.raw.words (fun e => HNM.out.2.1 e.symm), hkq.rowTo HR10.out.raw.watch (fun e => a2 e.symm), hkq.rowTo HR10.out.raw.hit (fun e => a3 e.symm), ⟨HNM.out.2.1, a2, a3, by omega, by omega, a6⟩⟩, HM10.out.ram.rng⟩)
                    have HS11 := Lib.hid (HS4b.out.keep hkq (fun e => by have e : sb = q := e; have := HSB.out; omega))
                    have HE11 := Lib.hid (((HE3.out.keep HK2'.out (fun e => by have := HM2'.out.low; have := HSB.out; omega)).keep HK4b.out (fun e => by have e : eb = sb := e; have := HSB.out; omega)).keep hkq (fun e => by have e : eb = q := e; have := HSB.out; omega))
                    have HK11 := Lib.hid (show Keeps (fun b => b = sb ∨ b = q) w (w10.setCell ⟨q, 0, none⟩ (.slice (some ⟨wb2, 0, none⟩) 4096 4096)) from
                      ((HKW2.out.mono (T := fun b => b = sb ∨ b = q) (fun _ _ h => h.elim)).trans HK4b.out (fun _ _ h => Or.inl h)).trans hkq (fun _ _ h => Or.inr h))
                    clear hbx hkq
                    go_upto_region 36 with fail
                    clear c1 c2 c3 f3
                    generalize w10.setCell _ _ = w11 at *
                    obtain ⟨f0, f1, f2⟩ := HE11.out.frozen
                    obtain ⟨g0, g1, g2⟩ := HE11.out.cells
                    obtain ⟨hq1, hq2⟩ := HE11.out.put (t' := false) (a' := 0) (f' := false)
                    have HP := Lib.hid hq1
                    have HPK := Lib.hid hq2
                    clear hq1 hq2
                    go_wp2_with fail
                    refine bodyPost_ret (results_cell_row rfl _ _ eb 68 (rendC false 0 false) (0, 0) _ rfl HP.out.blk Tryz.underlying68 rfl size_rend) rfl ?_
                    rw [HRN.out]
                    refine ⟨rfl, ?_, ⟨wb2, HR11.out.keep HPK.out ⟨fun e => by have e : q = eb := e; have := HSB.out; omega, fun e => by have e : wb2 = eb := e; have := HM2'.out.low; have := HSB.out; omega, fun e => by have e : tb = eb := e; have := HR.out.raw.watch.lt; have := HEB.out; omega, fun e => by have e : hb = eb := e; have := HR.out.raw.hit.lt; have := HEB.out; omega⟩⟩, HK11.out.trans HPK.out (fun b hb e => by have e : b = eb := e; have := HEB.out; omega)⟩
                    have hfin := HS11.out.keep HPK.out (fun e => by have e : sb = eb := e; have := HSB.out; omega)
                    have hfin2 := hfin.congrR (R' := Y) (fun r hr => by
                      rw [← HS1E.out]
                      dsimp only
                      by_cases h : 1 ≤ r ∧ r < 32
                      · rw [if_pos h]
                      · rw [if_neg h]
                        obtain rfl : r = 0 := by omega
                        rw [H0.out]
                        exact HZ2.out.symm)
                    rw [← HS1E.out] at hfin2
                    exact hfin2
    · obtain rfl : i = n := by omega
      have HFE := Lib.hid (show RR = .fell by
        rw [HRES.out, List.drop_eq_nil_of_le (by rw [HLEN.out]; exact Nat.le_refl _)]
        rfl)
      obtain ⟨f0, f1, f2⟩ := HEBr.out.frozen
      obtain ⟨g0, g1, g2⟩ := HEBr.out.cells
      obtain ⟨hq1, hq2⟩ := HEBr.out.put (t' := false) (a' := 0) (f' := true)
      have HP := Lib.hid hq1
      have HPK := Lib.hid hq2
      clear hq1 hq2
      go_wp2_with fail
      refine bodyPost_ret (results_cell_row rfl _ _ eb 68 (rendC false 0 true) (0, 0) _ rfl HP.out.blk Tryz.underlying68 rfl size_rend) rfl ?_
      rw [HFE.out]
      exact ⟨rfl, HKF.out.trans HPK.out (fun b hb e => by have e : b = eb := e; have := HEB.out; omega)⟩
end Go.Proofs.YtknhfobcejpmeaaGreatDoor

/- Each -/
/- Rows of one op each, of the call's own: the walks of the law's each, of the reference's EvalOf. Printed by gen/each.py. -/
namespace Go.Proofs.YtknhfobcejpmeaaGreatDoor
open Go.RowKit Go.Deep
set_option linter.unusedVariables false
set_option linter.unusedSimpArgs false

def rowV (g : Nat) : Value := .slice (some ⟨g, 0, none⟩) 1 1
theorem Tryz.info_row : (Tryz.prog.info? 23).map (fun i => (i.zero, i.size, i.bytes)) = some (some (.slice none 0 0), 1, 24) := by kernel_rfl
/-- rows of one op each -/
def EachAt (w : World) (B : Nat) (v : Value) (l : List Ir.Op) : Prop :=
  ∃ gs : List Nat, gs.length = l.length ∧ w.ownsRow B 23 1 v l.length (gs.map rowV) ∧ ∀ j, j < l.length → B ≤ gs.getD j 0 ∧ w.heap[gs.getD j 0]? = some (.cells (opC (l.getD j Ir.nop)) 100 (0, 0))
theorem EachAt.quiet {w w' : World} {B : Nat} {v : Value} {l : List Ir.Op} (h : EachAt w B v l) (k : Keeps (fun _ => False) w w') : EachAt w' B v l := by
  obtain ⟨gs, h1, h2, h3⟩ := h
  exact ⟨gs, h1, owns_keep h2 k (fun _ _ h => h), fun j hj => ⟨(h3 j hj).1, (k.block _ (Array.getElem?_eq_some_iff.1 (h3 j hj).2).1 (fun h => h)).trans (h3 j hj).2⟩⟩
theorem EachAt.nil (w : World) (B : Nat) : EachAt w B (.slice none 0 0) [] := ⟨[], rfl, World.ownsRow_nil _ _ _ _, fun j hj => absurd hj (by simp)⟩
/-- one more -/
theorem EachAt.step {w2 w3 : World} {B g : Nat} {v v' : Value} {l : List Ir.Op} {o : Ir.Op} {gs : List Nat} (h1 : gs.length = l.length) (h2 : w2.ownsRow B 23 1 v l.length (gs.map rowV)) (h3 : ∀ j, j < l.length → B ≤ gs.getD j 0 ∧ w2.heap[gs.getD j 0]? = some (.cells (opC (l.getD j Ir.nop)) 100 (0, 0)))
    (hg : B ≤ g ∧ w2.heap[g]? = some (.cells (opC o) 100 (0, 0))) (hk : Keeps (fun k => v.ownBlock = some k) w2 w3) (hown : w3.ownsRow B 23 1 v' (l.length + 1) (gs.map rowV ++ [rowV g])) : EachAt w3 B v' (l ++ [o]) := by
  have hne : ∀ k c, w2.heap[k]? = some (.cells c 100 (0, 0)) → ¬ v.ownBlock = some k := fun k c hc e => by
    obtain ⟨_, ⟨h4, _⟩ | ⟨g2, cap, cur, h4, h5, h6, _⟩⟩ := h2
    · rw [h4] at e; cases e
    · rw [h4] at e
      injection e with e
      subst e
      rw [hc] at h6
      injection h6 with h6
      injection h6 with _ h7
      exact absurd h7 (by decide)
  refine ⟨gs ++ [g], by simp [h1], ?_, fun j hj => ?_⟩
  · rw [List.length_append, List.length_singleton, List.map_append]
    exact hown
  · rw [List.length_append, List.length_singleton] at hj
    by_cases e : j < l.length
    · have a1 : (gs ++ [g]).getD j 0 = gs.getD j 0 := by simp [List.getD_eq_getElem?_getD, List.getElem?_append_left (show j < gs.length by omega)]
      have a2 : (l ++ [o]).getD j Ir.nop = l.getD j Ir.nop := by simp [List.getD_eq_getElem?_getD, List.getElem?_append_left e]
      rw [a1, a2]
      have := h3 j e
      exact ⟨this.1, (hk.block _ (Array.getElem?_eq_some_iff.1 this.2).1 (hne _ _ this.2)).trans this.2⟩
    · obtain rfl : j = l.length := by omega
      have a1 : (gs ++ [g]).getD l.length 0 = g := by rw [← h1]; simp [List.getD_eq_getElem?_getD]
      have a2 : (l ++ [o]).getD l.length Ir.nop = o := by simp [List.getD_eq_getElem?_getD]
      rw [a1, a2]
      exact ⟨hg.1, (hk.block _ (Array.getElem?_eq_some_iff.1 hg.2).1 (hne _ _ hg.2)).trans hg.2⟩
theorem EachAt.rows {w : World} {B : Nat} {v : Value} {l : List Ir.Op} (h : EachAt w B v l) : ∃ A cap, v = .slice A l.length cap ∧ cap ≤ 9223372036854775807 ∧ RowsAt w A l.length cap (l.map fun o => [o]) := by
  obtain ⟨gs, h1, h2, h3⟩ := h
  obtain ⟨A, cap, rfl⟩ := owns_slice h2
  refine ⟨A, cap, rfl, owns_cap h2, ?_⟩
  obtain ⟨hlen, ⟨h4, h5⟩ | ⟨g, cap', cur, h4, h5, h6, h7, h8, h9, h10⟩⟩ := h2
  · injection h4 with e1 e2 e3
    exact ⟨by simp, by omega, .inl e3⟩
  · injection h4 with e1 e2 e3
    subst e1 e3
    refine ⟨by simp, h7, .inr ⟨g, 0, rfl, (Array.getElem?_eq_some_iff.1 h6).1, fun i hi => ?_⟩⟩
    have hr : (l.map fun o => [o]).getD i [] = [l.getD i Ir.nop] := by
      rw [List.getD_eq_getElem?_getD, List.getElem?_map, List.getElem?_eq_getElem hi, List.getD_eq_getElem?_getD, List.getElem?_eq_getElem hi]
      rfl
    rw [hr]
    have hc : w.cell? ⟨g, 0 + i, none⟩ = some (rowV (gs.getD i 0)) := by
      have e : (gs.map rowV)[i]? = some (rowV (gs.getD i 0)) := by
        rw [List.getElem?_map, List.getElem?_eq_getElem (by omega), List.getD_eq_getElem?_getD, List.getElem?_eq_getElem (by omega)]
        rfl
      rw [← h10, List.getElem?_take_of_lt (by omega)] at e
      unfold World.cell?
      rw [h6]
      simp only [Nat.zero_add]
      simpa using e
    refine ⟨some ⟨gs.getD i 0, 0, none⟩, 1, hc, ⟨rfl, Nat.le_refl _, .inr ⟨gs.getD i 0, 0, rfl, (Array.getElem?_eq_some_iff.1 (h3 i hi).2).1, fun j hj => ?_⟩⟩, by decide⟩
    have hj : j < 1 := hj
    obtain rfl : j = 0 := by omega
    refine OpLies.of_cells fun q hq v hv => ?_
    unfold World.cell?
    rw [(h3 i hi).2]
    simpa using hv
set_option maxHeartbeats 4000000 in
set_option maxRecDepth 100000 in
theorem each_any (A : Option Addr) (n cap : Nat) (l : List Ir.Op) (w : World) (V : OpsAt w A n cap l) (hc : cap ≤ 9223372036854775807) (hn : n < 1000000) :
    Calls Tryz.prog 18 #[.slice A n cap] w fun e w' => ∃ v, e = .returned v ∧ EachAt w' w.heap.size v l ∧ Keeps (fun _ => False) w w' := by
  obtain ⟨i0, hinf, hz0, hz1, hz2⟩ := info_parts Tryz.info_row
  have HV := Lib.hid V
  have HL := Lib.hid V.len
  have hnc := V.le
  have HK0 := Lib.hid (Keeps.refl (fun _ => False) w)
  obtain ⟨B, hB⟩ : ∃ B, w.heap.size = B := ⟨_, rfl⟩
  rw [hB]
  have HBE := Lib.hid hB
  clear V hB
  go_enter Tryz.func18, Tryz.ntmps18
  go_wp2_with fail
  go_loopw [3, 4] (fun s1 s2 wr => ∃ i : Nat, i ≤ n ∧ s2 = .int .i64 i ∧ EachAt wr B s1 (l.take i) ∧ Keeps (fun _ => False) w wr) (fun _ s2 _ => n - (intOf s2).toNat)
  case atStart => exact ⟨0, by omega, rfl, by rw [List.take_zero]; exact EachAt.nil _ _, HK0.out⟩
  case round =>
    obtain ⟨i, hi, rfl, hE, hK⟩ := hrel
    have HE := Lib.hid hE
    have HK := Lib.hid hK
    clear hE hK
    by_cases hlt : i < n
    · obtain ⟨ob, oo, rfl, e0, e1, e2, e3, e4, e5⟩ := (HV.out.quiet HK.out).get hlt
      have hil : i < l.length := by rw [HL.out]; exact hlt
      have HTS := Lib.hid (Ir.take_succ_getD l i hil)
      have hlen : (l.take i).length = i := by rw [List.length_take, Nat.min_eq_left (Nat.le_of_lt hil)]
      obtain ⟨op, hop⟩ : ∃ op, l.getD i Ir.nop = op := ⟨_, rfl⟩
      rw [hop] at e0 e1 e2 e3 e4 e5 HTS
      clear hop
      obtain ⟨ok, od, oa, ob2, oim, oat⟩ := op
      simp only at e0 e1 e2 e3 e4 e5
      have hi63 : (i : Int) < n := by omega
      obtain ⟨gs, hg1, hg2, hg3⟩ := HE.out
      rw [hlen] at hg2
      obtain ⟨A1, cap1, rfl⟩ := owns_slice hg2
      have hbn := blk_alloc_new wr (.cells #[.string ok, .int .i64 od, .int .i64 oa, .int .i64 ob2, .int .u32 oim, .int .i64 oat] 100)
      have hka := (Keeps.refl (fun _ => False) wr).alloc (.cells #[.string ok, .int .i64 od, .int .i64 oa, .int .i64 ob2, .int .u32 oim, .int .i64 oat] 100)
      go_upto_region 6 with fail
      obtain ⟨g, hgz⟩ : ∃ g, wr.heap.size = g := ⟨_, rfl⟩
      rw [hgz] at hbn ⊢
      have HGB := Lib.hid (show B ≤ g by
        rw [← hgz, ← HBE.out]
        exact HK.out.size)
      clear hgz
      generalize wr.alloc _ = w2 at *
      have HBN := Lib.hid hbn
      have HKA := Lib.hid hka
      have hg2b := owns_keep hg2 hka (fun _ _ h => h)
      have HG3 := Lib.hid (show ∀ j, j < (l.take i).length → B ≤ gs.getD j 0 ∧ (w2.alloc (.cells #[.slice (some ⟨g, 0, none⟩) 1 1] 23)).heap[gs.getD j 0]? = some (.cells (opC ((l.take i).getD j Ir.nop)) 100 (0, 0)) from fun j hj => by
        have h := hg3 j hj
        have h2 := (hka.block _ (Array.getElem?_eq_some_iff.1 h.2).1 (fun h => h)).trans h.2
        exact ⟨h.1, (blk_alloc_lt _ _ _ (Array.getElem?_eq_some_iff.1 h2).1).trans h2⟩)
      have HG1 := Lib.hid hg1
      have HQ := Lib.hid (show (w2.alloc (.cells #[.slice (some ⟨g, 0, none⟩) 1 1] 23)).ownsRow B 23 1 (.slice A1 i cap1) i (gs.map rowV) from hg2b.alloc _)
      have HGG := Lib.hid (show B ≤ g ∧ (w2.alloc (.cells #[.slice (some ⟨g, 0, none⟩) 1 1] 23)).heap[g]? = some (.cells (opC (⟨ok, od, oa, ob2, oim, oat⟩ : Ir.Op)) 100 (0, 0)) from
        ⟨HGB.out, (blk_alloc_lt _ _ _ (Array.getElem?_eq_some_iff.1 hbn).1).trans hbn⟩)
      have HCN := Lib.hid (fun j u hj => cells_new w2 [.slice (some ⟨g, 0, none⟩) 1 1] 23 j u hj)
      have HONE : Hid (∀ u ∈ [Value.slice (some ⟨g, 0, none⟩) 1 1], u.oneCell' = true) := Lib.hid (by
        intro u hu
        simp only [List.mem_cons, List.not_mem_nil, or_false] at hu
        rw [hu]
        rfl)
      have HBS := Lib.hid (show B ≤ (w2.alloc (.cells #[.slice (some ⟨g, 0, none⟩) 1 1] 23)).heap.size by
        rw [nblk_alloc]
        have := hka.size
        have := HK.out.size
        have := HBE.out
        omega)
      have hmx : i + 1 ≤ maxLen := by unfold maxLen; omega
      have HLL := Lib.hid (show (gs.map rowV).length = i * 1 by rw [List.length_map, hg1, hlen, Nat.mul_one])
      have HLN := Lib.hid hlen
      have HK2 := Lib.hid (HK.out.trans hka (fun _ _ h => h))
      clear hg1 hg2 hg3 hg2b hka hbn HE hlen e0 e1 e2 e3 e4 e5
      go_wp2_with (at_builtin; go_loud (refine wpList_append_own _ rfl _ _ 33 rfl B 23 i0 _ 1 24 Tryz.underlying33 hinf hz0 hz1 hz2 rfl (by decide) (.slice A1 i cap1) i (gs.map rowV) rfl HQ.out ⟨w2.heap.size, 0, none⟩ 1 1 [.slice (some ⟨g, 0, none⟩) 1 1] rfl rfl HCN.out HONE.out hmx (by omega) HBS.out ?c0))
      case c0 =>
        intro v' w3 hown hgrow hnil
        obtain ⟨A2, cap2, rfl⟩ := owns_slice hown
        have hk23 : Keeps (fun k => (Value.slice A1 i cap1).ownBlock = some k) (w2.alloc (.cells #[.slice (some ⟨g, 0, none⟩) 1 1] 23)) w3 := (Keeps.refl _ _).grown hgrow (fun g hg _ => hg)
        have HE3 := Lib.hid (show EachAt w3 B (.slice A2 (i + 1) cap2) (l.take (i + 1)) from by
          rw [HTS.out]
          refine EachAt.step HG1.out (v := .slice A1 i cap1) ?_ HG3.out HGG.out hk23 ?_
          · rw [HLN.out]; exact HQ.out
          · rw [HLN.out]; exact hown)
        have hlq := HQ.out.lt
        have HK3 := Lib.hid (show Keeps (fun _ => False) w w3 from (HK2.out.alloc (.cells #[.slice (some ⟨g, 0, none⟩) 1 1] 23)).trans hk23 (fun b hb h => by
          have := (hlq b h).1
          have := HBE.out
          omega))
        clear hown hgrow hnil hk23 hlq
        go_wp2_with fail
        go_roundw
        case rel => exact ⟨i + 1, by omega, by go_num, HE3.out, HK3.out⟩
        case measure => simp [intOf]; omega
    · obtain rfl : i = n := by omega
      have HEE := Lib.hid (show EachAt wr B _ l from by
        have := HE.out
        rwa [List.take_of_length_le (by rw [HL.out]; exact Nat.le_refl _)] at this)
      go_wp2_with fail
      go_ret
      exact ⟨_, rfl, HEE.out, HK.out⟩
end Go.Proofs.YtknhfobcejpmeaaGreatDoor
