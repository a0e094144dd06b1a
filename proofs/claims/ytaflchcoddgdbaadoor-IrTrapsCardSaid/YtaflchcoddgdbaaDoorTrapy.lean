import Derived.Test.YtaflchcoddgdbaaDoorStored
import Derived.Test.YtaflchcoddgdbaaDoorIrOps
import Derived.LoopTactic
import Derived.Test.YtaflchcoddgdbaaDoorMach
import Derived.Shelf.SlIterI.Nil
import Derived.Shelf.SortM.Plain
import Derived.Shelf.SortM.SortNone
import Derived.Ground.GgzProg
import Derived.Ground.SlgmProg
import Derived.Test.YtaflchcoddgdbaaDoorProg
import Derived.Test.YtaflchcoddgdbaaDoorRamLoad
import Derived.Lib.SmallJoins
import Derived.RangeFuncSeq
import Derived.Test.YtaflchcoddgdbaaDoorTrapx
import Derived.Test.YtaflchcoddgdbaaDoorOpsOwn
import Derived.Test.YtaflchcoddgdbaaDoorRamWords
import Derived.Test.YtaflchcoddgdbaaDoorMachOk

/- Alike -/
/- The walk of AlikeWords over words that are alike. -/
namespace Go.Proofs.YtaflchcoddgdbaaDoor
open Go.RowKit Go.Deep
set_option linter.unusedVariables false

set_option maxHeartbeats 1000000 in
theorem alike_same (a b n ca cb : Nat) (f : Nat → Int) (w : World) (hn : n ≤ 4096) (hca : n ≤ ca ∧ ca ≤ 9223372036854775807) (hcb : n ≤ cb ∧ cb ≤ 9223372036854775807)
    (ha : ∀ i, i < n → w.cell? ⟨a, i, none⟩ = some (.int .u32 (f i))) (hb : ∀ i, i < n → w.cell? ⟨b, i, none⟩ = some (.int .u32 (f i))) :
    Calls Tryd.prog 14 #[.slice (some ⟨a, 0, none⟩) n ca, .slice (some ⟨b, 0, none⟩) n cb] w fun e w' => e = .returned (.int .i64 1) ∧ Keeps (fun _ => False) w w' := by
  go_enter Tryd.func14, Tryd.ntmps14
  go_wp2_with fail
  go_loopw [5] (fun s5 wr => ∃ i : Nat, i ≤ n ∧ s5 = .int .i64 i ∧ Keeps (fun _ => False) w wr) (fun s5 _ => n - (intOf s5).toNat)
  case atStart => exact ⟨0, by omega, rfl, Keeps.refl _ w⟩
  case round =>
    obtain ⟨i, hi, rfl, hK⟩ := hrel
    by_cases hlt : i < n
    · have h1 := hK.cell' (ha i hlt) (fun f => f)
      have h2 := hK.cell' (hb i hlt) (fun f => f)
      go_wp2_with fail
      go_quiet (fail)
      go_wp2_with fail
      go_roundw
      case rel => exact ⟨i + 1, by omega, by go_num, hK.drewN _⟩
      case measure => simp [intOf]; omega
    · obtain rfl : i = n := by omega
      go_wp2_with fail
      go_ret
      exact ⟨rfl, hK⟩
end Go.Proofs.YtaflchcoddgdbaaDoor

/- LongOps40 -/
/- The walk of LongOps at forty. -/
namespace Go.Proofs.YtaflchcoddgdbaaDoor
open Go.RowKit Go.Deep
set_option linter.unusedVariables false
set_option linter.unusedSimpArgs false

set_option maxHeartbeats 1000000 in
set_option maxRecDepth 100000 in
theorem longOps40_any (A : Option Addr) (n cap : Nat) (l : List Ir.Op) (w : World) (V : OpsAt w A n cap l) (hc : cap ≤ 9223372036854775807) :
    Calls Tryd.prog 8 #[.slice A n cap, .int .i64 40] w fun e w' => ∃ r : Int, e = .returned (.int .i64 r) ∧ (r = 1 ∨ (r = 0 ∧ n ≤ 201)) ∧ Keeps (fun _ => False) w w' := by
  have HV := Lib.hid V
  have hn := V.le
  clear V
  by_cases h1 : 40 < n ∧ n ≠ 201
  · have t1 : decide ((40 : Int) < (n : Int)) = true := decide_eq_true (by omega)
    have t2 : ((n : Int) != 201) = true := by simp; omega
    clear h1
    go_enter Tryd.func8, Tryd.ntmps8
    go_wp2_with fail
    go_ret
    exact ⟨1, rfl, .inl rfl, Keeps.refl _ _⟩
  · have HN := Lib.hid (show n ≤ 201 by omega)
    by_cases h2 : 40 < n
    all_goals
      first
        | (have t1 : decide ((40 : Int) < (n : Int)) = true := decide_eq_true (by omega); have t2 : ((n : Int) != 201) = false := by (simp; omega))
        | (have t1 : decide ((40 : Int) < (n : Int)) = false := decide_eq_false (by omega))
      clear h1 h2
      go_enter Tryd.func8, Tryd.ntmps8
      go_wp2_with fail
      (try clear t1)
      (try clear t2)
      go_loopw [5] (fun s5 wr => ∃ i : Nat, i ≤ n ∧ s5 = .int .i64 i ∧ Keeps (fun _ => False) w wr) (fun s5 _ => n - (intOf s5).toNat)
      case atStart => exact ⟨0, by omega, rfl, Keeps.refl _ _⟩
      case round =>
        obtain ⟨i, hi, rfl, hK⟩ := hrel
        have HK := Lib.hid hK
        clear hK
        by_cases hlt : i < n
        · obtain ⟨bb, oo, rfl, e0, e1, e2, e3, e4, e5⟩ := (HV.out.quiet HK.out).get hlt
          obtain ⟨op, hop⟩ : ∃ op, l.getD i Ir.nop = op := ⟨_, rfl⟩
          rw [hop] at e0 e1 e2 e3 e4 e5
          clear hop
          cases hk : decide ((20 : Int) < (op.k.size : Int))
          · go_wp2_with fail
            go_roundw
            case rel => exact ⟨i + 1, by omega, by go_num, HK.out⟩
            case measure => simp [intOf]; omega
          · go_wp2_with fail
            go_ret
            exact ⟨1, rfl, .inl rfl, HK.out⟩
        · obtain rfl : i = n := by omega
          go_wp2_with fail
          go_ret
          exact ⟨0, rfl, .inr ⟨rfl, HN.out⟩, HK.out⟩
end Go.Proofs.YtaflchcoddgdbaaDoor

/- TrapsL -/
/- What a right code's run answers, said plainly: it does not fall out of its end; register 0 stays. -/
namespace Go.Proofs.YtaflchcoddgdbaaDoor
open Go.RowKit
set_option linter.unusedVariables false
namespace Ir
theorem ev_no_fell {m : Nat → Int} {W : Int → Bool} : ∀ (l : List Op) (c c' : Mc), l.length ≠ 0 → isOut (kn (l.getD (l.length - 1) nop).k) = true → evGo m W c l ≠ .fell c'
  | [], _, _, h, _ => absurd rfl h
  | o :: r, c, c', _, h => by
    intro he
    unfold evGo at he
    by_cases hr : r = []
    · subst hr
      have ho : isOut (kn o.k) = true := h
      unfold isOut at ho
      simp at ho
      have hl : leaves (kn o.k) = true := by unfold leaves; simp; omega
      rw [if_pos hl] at he
      have hg : ∃ pc, goesTo o (rg c.X o.a) = some pc := by
        unfold goesTo
        rw [if_neg (by omega)]
        rcases ho with ho | ho
        · rw [if_pos ho]; exact ⟨_, rfl⟩
        · rw [if_neg (by omega), if_pos ho]; exact ⟨_, rfl⟩
      obtain ⟨pc, hg⟩ := hg
      rw [hg] at he
      cases he
    · have hp : r.length ≠ 0 := by simpa using hr
      have h2 : isOut (kn (r.getD (r.length - 1) nop).k) = true := by
        have : (o :: r).getD ((o :: r).length - 1) nop = r.getD (r.length - 1) nop := by
          rw [show (o :: r).length - 1 = (r.length - 1) + 1 by rw [List.length_cons]; omega]
          rfl
        rwa [this] at h
      split at he
      · split at he
        · cases he
        · exact ev_no_fell r c c' hp h2 he
      · split at he
        · cases he
        · exact ev_no_fell r _ c' hp h2 he
theorem setX_zero {X : Nat → Int} {d v : Int} (h : 1 ≤ d) : setX X d v 0 = X 0 := by
  unfold setX
  rw [if_neg (by omega)]
theorem doOp_zero {m : Nat → Int} {W : Int → Bool} {c c' : Mc} {o : Op} (hi : OpIn o) (hl : leaves (kn o.k) = false) (h : doOp m W c o = some c') : c'.X 0 = c.X 0 := by
  have hk := hi.k
  unfold leaves at hl
  have hl := of_decide_eq_false hl
  unfold doOp at h
  split at h
  · cases h; exact setX_zero (hi.d (by omega)).1
  split at h
  · cases h; exact setX_zero (hi.d (by omega)).1
  split at h
  · split at h
    · cases h
    · cases h; rfl
  split at h
  · split at h
    · cases h; exact setX_zero (hi.d (by omega)).1
    · cases h
  split at h
  · split at h
    · cases h; rfl
    · cases h
  · cases h; exact setX_zero (hi.d (by omega)).1
theorem ev_zero {m : Nat → Int} {W : Int → Bool} : ∀ (l : List Op) (c c' : Mc) (pc : Int), (∀ o ∈ l, OpIn o) → evGo m W c l = .leave pc c' → c'.X 0 = c.X 0
  | [], _, _, _, _, h => by unfold evGo at h; cases h
  | o :: r, c, c', pc, hi, h => by
    unfold evGo at h
    split at h
    · split at h
      · cases h; rfl
      · exact ev_zero r c c' pc (fun o ho => hi o (List.mem_cons_of_mem _ ho)) h
    · rename_i hl
      split at h
      · cases h
      · rename_i c2 hd
        rw [ev_zero r c2 c' pc (fun o ho => hi o (List.mem_cons_of_mem _ ho)) h]
        exact doOp_zero (hi o (List.mem_cons_self ..)) (by simpa using hl) hd
end Ir
end Go.Proofs.YtaflchcoddgdbaaDoor

/- HitsLaid -/
/- The contracts of slices.Sorted(maps.Keys(..)) laid at this seat: written by lay-plain.mjs out of XHitsShelf. -/
namespace Go.Proofs
open Go.Shelf
def Tryd.keysA_ren : Go.Shelf.Ren := ⟨fun | 7 => 46 | 10 => 82 | n => n, fun | 23 => 89 | 26 => 3 | 3 => 4 | 28 => 95 | 0 => 0 | 27 => 94 | 33 => 126 | 4 => 4 | n => n, fun | n => n⟩
theorem Tryd.keysA : Go.Proofs.SlLaysZI.n7 Tryd.prog Tryd.keysA_ren := {
  mixed := by kernel_rfl
  f7 := ⟨Tryd.f46.name, by decide, Tryd.func46.trans (congrArg some (by kernel_rfl))⟩
  f10 := ⟨Tryd.f82.name, by decide, Tryd.func82.trans (congrArg some (by kernel_rfl))⟩
  t0 := Tryd.underlying0
  a0 := Tryd.isAgg0
  z0 := Tryd.sizeOf0
  v0 := Tryd.zeroValue0
  t4 := Tryd.underlying4
  a4 := Tryd.isAgg4
  z4 := Tryd.sizeOf4
  v4 := Tryd.zeroValue4
  t23 := Tryd.underlying89
  a23 := Tryd.isAgg89
  z23 := Tryd.sizeOf89
  v23 := Tryd.zeroValue89
  t26 := Tryd.underlying3
  a26 := Tryd.isAgg3
  z26 := Tryd.sizeOf3
  v26 := Tryd.zeroValue3
  t27 := Tryd.underlying94
  a27 := Tryd.isAgg94
  z27 := Tryd.sizeOf94
  v27 := Tryd.zeroValue94
  t28 := Tryd.underlying95
  a28 := Tryd.isAgg95
  z28 := Tryd.sizeOf95
  v28 := Tryd.zeroValue95
  t33 := Tryd.underlying126
  a33 := Tryd.isAgg126
  z33 := Tryd.sizeOf126
  v33 := Tryd.zeroValue126 }
def Tryd.sortedA_ren : Go.Shelf.Ren := ⟨fun | 6 => 45 | 8 => 80 | 9 => 81 | 11 => 109 | 13 => 111 | 12 => 110 | 23 => 137 | 24 => 138 | 14 => 128 | 15 => 129 | 16 => 130 | 17 => 131 | 18 => 132 | 19 => 133 | 20 => 134 | 21 => 135 | 22 => 136 | 25 => 142 | 26 => 143 | 27 => 144 | 28 => 145 | 29 => 146 | 30 => 147 | 31 => 149 | n => n, fun | 26 => 3 | 28 => 95 | 24 => 49 | 0 => 0 | 3 => 3 | 37 => 92 | 48 => 23 | 50 => 189 | 4 => 4 | 40 => 181 | 39 => 180 | 45 => 185 | 5 => 5 | 9 => 9 | 51 => 206 | 55 => 210 | 57 => 212 | 58 => 108 | 33 => 126 | n => n, fun | n => n⟩
theorem Tryd.sortedA : Go.Proofs.SlLaysZI.n6 Tryd.prog Tryd.sortedA_ren := {
  mixed := by kernel_rfl
  f6 := ⟨Tryd.f45.name, by decide, Tryd.func45.trans (congrArg some (by kernel_rfl))⟩
  f8 := ⟨Tryd.f80.name, by decide, Tryd.func80.trans (congrArg some (by kernel_rfl))⟩
  f11 := ⟨Tryd.f109.name, by decide, Tryd.func109.trans (congrArg some (by kernel_rfl))⟩
  t0 := Tryd.underlying0
  a0 := Tryd.isAgg0
  z0 := Tryd.sizeOf0
  v0 := Tryd.zeroValue0
  t24 := Tryd.underlying49
  a24 := Tryd.isAgg49
  z24 := Tryd.sizeOf49
  v24 := Tryd.zeroValue49
  t26 := Tryd.underlying3
  a26 := Tryd.isAgg3
  z26 := Tryd.sizeOf3
  v26 := Tryd.zeroValue3
  t28 := Tryd.underlying95
  a28 := Tryd.isAgg95
  z28 := Tryd.sizeOf95
  v28 := Tryd.zeroValue95
  i26 := by kernel_rfl }
def Tryd.sortA_ren : Go.Shelf.Ren := ⟨fun | 5 => 81 | 8 => 111 | 7 => 110 | 19 => 137 | 20 => 138 | 10 => 128 | 11 => 129 | 12 => 130 | 13 => 131 | 14 => 132 | 15 => 133 | 16 => 134 | 17 => 135 | 18 => 136 | 30 => 142 | 31 => 143 | 32 => 144 | 33 => 145 | 34 => 146 | 35 => 147 | 40 => 149 | n => n, fun | 23 => 49 | 25 => 3 | 3 => 3 | 32 => 92 | 22 => 49 | 0 => 0 | 44 => 23 | 46 => 189 | 4 => 4 | 36 => 181 | 35 => 180 | 41 => 185 | 5 => 5 | 9 => 9 | 53 => 206 | 57 => 210 | 63 => 212 | 64 => 108 | n => n, fun | n => n⟩
theorem Tryd.sortA : Go.Proofs.SlLaysM.n5 Tryd.prog Tryd.sortA_ren := {
  mixed := by kernel_rfl
  f5 := ⟨Tryd.f81.name, by decide, Tryd.func81.trans (congrArg some (by kernel_rfl))⟩
  f7 := ⟨Tryd.f110.name, by decide, Tryd.func110.trans (congrArg some (by kernel_rfl))⟩
  f8 := Tryd.func111.trans (congrArg some (by kernel_rfl))
  f10 := ⟨Tryd.f128.name, by decide, Tryd.func128.trans (congrArg some (by kernel_rfl))⟩
  f11 := ⟨Tryd.f129.name, by decide, Tryd.func129.trans (congrArg some (by kernel_rfl))⟩
  f12 := ⟨Tryd.f130.name, by decide, Tryd.func130.trans (congrArg some (by kernel_rfl))⟩
  f13 := ⟨Tryd.f131.name, by decide, Tryd.func131.trans (congrArg some (by kernel_rfl))⟩
  f14 := ⟨Tryd.f132.name, by decide, Tryd.func132.trans (congrArg some (by kernel_rfl))⟩
  f15 := ⟨Tryd.f133.name, by decide, Tryd.func133.trans (congrArg some (by kernel_rfl))⟩
  f16 := ⟨Tryd.f134.name, by decide, Tryd.func134.trans (congrArg some (by kernel_rfl))⟩
  f17 := ⟨Tryd.f135.name, by decide, Tryd.func135.trans (congrArg some (by kernel_rfl))⟩
  f18 := ⟨Tryd.f136.name, by decide, Tryd.func136.trans (congrArg some (by kernel_rfl))⟩
  f19 := Tryd.func137.trans (congrArg some (by kernel_rfl))
  f20 := Tryd.func138.trans (congrArg some (by kernel_rfl))
  f30 := ⟨Tryd.f142.name, by decide, Tryd.func142.trans (congrArg some (by kernel_rfl))⟩
  f31 := Tryd.func143.trans (congrArg some (by kernel_rfl))
  f32 := Tryd.func144.trans (congrArg some (by kernel_rfl))
  f33 := ⟨Tryd.f145.name, by decide, Tryd.func145.trans (congrArg some (by kernel_rfl))⟩
  f34 := ⟨Tryd.f146.name, by decide, Tryd.func146.trans (congrArg some (by kernel_rfl))⟩
  f35 := ⟨Tryd.f147.name, by decide, Tryd.func147.trans (congrArg some (by kernel_rfl))⟩
  f40 := ⟨Tryd.f149.name, by decide, Tryd.func149.trans (congrArg some (by kernel_rfl))⟩
  t0 := Tryd.underlying0
  a0 := Tryd.isAgg0
  z0 := Tryd.sizeOf0
  v0 := Tryd.zeroValue0
  t3 := Tryd.underlying3
  a3 := Tryd.isAgg3
  z3 := Tryd.sizeOf3
  v3 := Tryd.zeroValue3
  t4 := Tryd.underlying4
  a4 := Tryd.isAgg4
  z4 := Tryd.sizeOf4
  v4 := Tryd.zeroValue4
  t5 := Tryd.underlying5
  a5 := Tryd.isAgg5
  z5 := Tryd.sizeOf5
  v5 := Tryd.zeroValue5
  t9 := Tryd.underlying9
  a9 := Tryd.isAgg9
  z9 := Tryd.sizeOf9
  v9 := Tryd.zeroValue9
  t22 := Tryd.underlying49
  a22 := Tryd.isAgg49
  z22 := Tryd.sizeOf49
  v22 := Tryd.zeroValue49
  t23 := Tryd.underlying49
  a23 := Tryd.isAgg49
  z23 := Tryd.sizeOf49
  v23 := Tryd.zeroValue49
  t25 := Tryd.underlying3
  a25 := Tryd.isAgg3
  z25 := Tryd.sizeOf3
  v25 := Tryd.zeroValue3
  t32 := Tryd.underlying92
  a32 := Tryd.isAgg92
  z32 := Tryd.sizeOf92
  v32 := Tryd.zeroValue92
  t35 := Tryd.underlying180
  a35 := Tryd.isAgg180
  z35 := Tryd.sizeOf180
  v35 := Tryd.zeroValue180
  t36 := Tryd.underlying181
  a36 := Tryd.isAgg181
  z36 := Tryd.sizeOf181
  v36 := Tryd.zeroValue181
  t41 := Tryd.underlying185
  a41 := Tryd.isAgg185
  z41 := Tryd.sizeOf185
  v41 := Tryd.zeroValue185
  t44 := Tryd.underlying23
  a44 := Tryd.isAgg23
  z44 := Tryd.sizeOf23
  v44 := Tryd.zeroValue23
  t46 := Tryd.underlying189
  a46 := Tryd.isAgg189
  z46 := Tryd.sizeOf189
  v46 := Tryd.zeroValue189
  t53 := Tryd.underlying206
  a53 := Tryd.isAgg206
  z53 := Tryd.sizeOf206
  v53 := Tryd.zeroValue206
  t57 := Tryd.underlying210
  a57 := Tryd.isAgg210
  z57 := Tryd.sizeOf210
  v57 := Tryd.zeroValue210
  t63 := Tryd.underlying212
  a63 := Tryd.isAgg212
  z63 := Tryd.sizeOf212
  v63 := Tryd.zeroValue212
  t64 := Tryd.underlying108
  a64 := Tryd.isAgg108
  z64 := Tryd.sizeOf108
  v64 := Tryd.zeroValue108 }
end Go.Proofs

/- Hits -/
/- The walk of Hits where there are none. -/
namespace Go.Proofs.YtaflchcoddgdbaaDoor
open Go.RowKit Go.Deep Go.Maps Go.Sort Go.Shelf
set_option linter.unusedVariables false
set_option linter.unusedSimpArgs false

theorem keeps_of_below' {w w' : World} (h : RowKit.Below w.heap.size w w') : Keeps (fun _ => False) w w' := ⟨h.os, h.tape, h.output, h.size, fun b hb _ => h.block b hb⟩
/-- the world behind clear(hits) -/
def clearedW (w : World) (ph c : Nat) : World := { w with heap := w.heap.setIfInBounds ph (.map #[] c) }
theorem run_clear_hits (w : World) (ty : TypeId) (ph c : Nat) (es : Array MapEntry) (hm : w.heap[ph]? = some (.map es c)) :
    (Builtin.clear_ #[89] ty #[.map (some ph)]).run Tryd.prog w = .ok (.tuple #[]) (clearedW w ph c) := by
  simp [Builtin.clear_, run_underlying Tryd.underlying89, MapKept.run_getObj_map hm, MapKept.run_setObj_map _ hm, Result.andThen, clearedW]
theorem clearedW_keeps (w : World) (ph c : Nat) : Keeps (fun b => b = ph) w (clearedW w ph c) :=
  ⟨rfl, rfl, rfl, by simp [clearedW], fun k hk hs => by
    show (w.heap.setIfInBounds ph _)[k]? = _
    rw [Array.getElem?_setIfInBounds_ne (fun e => hs e.symm)]⟩
/-- slices.Sort's two contracts at this seat, at the fence that asks nothing. -/
theorem sorts_at (m : Nat) : AnyZI.SortsIn Tryd.prog Tryd.sortedA_ren Fence.wide m :=
  ⟨fun blk off cap ss W hH hblk hsz => callsIn_wide.2 (AnyM.slices_Sort_int Tryd.sortA blk off cap ss W hH hblk hsz),
   fun p cap W => callsIn_wide.2 (AnyM.slices_Sort_int_none Tryd.sortA p cap W)⟩
set_option maxHeartbeats 2000000 in
set_option maxRecDepth 100000 in
theorem hits_none (r pb pw ph cp : Nat) (m : Nat → Int) (w : World) (R : RamAt w r pb pw ph cp m) (hm : w.heap[ph]? = some (.map #[] 0)) :
    Calls Tryd.prog 17 #[.pointer (some ⟨r, 0, none⟩)] w fun e w' => e = .returned (.slice none 0 0) ∧ Keeps (fun b => b = ph) w w' := by
  refine (callsIn_wide (n := 6)).1 ?_
  have hown : w.ownsMap (H := Unit) Tryd.prog 3 (plainElem Tryd.prog 4) ph 0 (.map []) := ⟨#[], 0, hm, ⟨by simp, MapKept.stamped_empty 0, by simp⟩, by simp, rfl⟩
  have hbl := hown.lt
  have hseq : SeqGives Fence.wide 2 Tryd.prog 82 #[.pointer (some ⟨w.heap.size, 0, none⟩)] encZ (fun ss => ss.Perm (intKeys (.map [] : DataW Unit))) (Maps.size (.map [] : DataW Unit)) (w.alloc (.cells #[.map (some ph)] 89)) :=
    AnyZI.keys_gives (ρ := Tryd.keysA_ren) { Tryd.keysA with } Fence.wide _ trivial rfl (by omega) w.heap.size ph 0 (.map []) _ (by simp) (by simp) (by
      obtain ⟨es, clock, hb, Ft, hs, hD⟩ := hown
      exact ⟨es, clock, (Below.heap_alloc _ _ ph hbl).trans hb, Ft, hs, hD⟩)
  have cK : ∀ mb W, CallsIn Fence.wide 5 Tryd.prog 46 #[.map mb] W fun e w' => e = .returned (.func (.func 82) #[] #[.pointer (some ⟨W.heap.size, 0, none⟩)]) ∧ w' = W.alloc (.cells #[.map mb] 89) := fun mb W => AnyZI.keys_in Tryd.keysA Fence.wide 5 trivial rfl mb W
  have cS := AnyZI.sorted_in Tryd.sortedA Fence.wide 5 trivial trivial trivial trivial rfl (by omega) (sorts_at _) (enters_of Tryd.func81 (by kernel_rfl) rfl) 82 #[.pointer (some ⟨w.heap.size, 0, none⟩)] trivial (enters_of Tryd.func82 (by kernel_rfl) rfl) _ _ (show Maps.size (.map [] : DataW Unit) ≤ maxLen from Nat.zero_le _) (show Maps.size (.map [] : DataW Unit) * 8 ≤ 140737488355328 from by decide) _ hseq
  change CallsIn _ _ Tryd.prog 45 _ _ _ at cS
  have hfK : Fence.wide.fn 46 := trivial
  have hfS : Fence.wide.fn 45 := trivial
  have hc2 : w.cell? ⟨r, 2, none⟩ = some (.map (some ph)) := by unfold World.cell?; rw [R.box]; rfl
  have hrl : r < w.heap.size := (Array.getElem?_eq_some_iff.1 R.box).1
  have HB := Lib.hid R.box
  have HM := Lib.hid hm
  have HBL := Lib.hid hbl
  clear R hown hm
  refine callsIn_of_wp Tryd.func17 rfl trivial ?_ rfl
  simp only [Tryd.ntmps17, List.size_toArray, List.length_cons, List.length_nil, Nat.reduceAdd, Nat.reduceSub, Array.replicate_succ, Array.replicate_zero, List.push_toArray, List.append_toArray, List.nil_append, List.cons_append]
  gi_wp2_with (first
    | (gi_at_call 46; refine (cK _ _).mono ?_; rintro e w' ⟨rfl, rfl⟩)
    | (gi_at_call 45; refine cS.mono ?_; rintro e w3 ⟨v, ss, rfl, hS, hrow, hnil, hb⟩; obtain rfl : ss = [] := List.perm_nil.1 hS; obtain rfl : v = .slice none 0 0 := hnil.2 rfl; have hk3 := Keeps.trans ((Keeps.refl (fun _ => False) w).alloc (.cells #[.map (some ph)] 89)) (keeps_of_below' hb) (fun _ _ h => h); have hc3 := hk3.cell' hc2 (fun h => h); have hm3 := (hk3.block ph HBL.out (fun h => h)).trans HM.out; have hcl := run_clear_hits w3 0 ph 0 #[] hm3; have HK3 := Lib.hid hk3; clear hk3))
  go_ret
  exact ⟨rfl, (HK3.out.mono (T := fun b => b = ph) (fun _ _ h => h.elim)).trans (clearedW_keeps w3 ph 0) (fun _ _ h => h)⟩
end Go.Proofs.YtaflchcoddgdbaaDoor

/- Traps -/
/- The walk of the law IrTraps. -/
namespace Go.Proofs.YtaflchcoddgdbaaDoor
open Go.RowKit Go.Deep
set_option linter.unusedVariables false
set_option linter.unusedSimpArgs false

theorem placed_ready (s : Cp.St) : Ir.ready (Ir.placed s 64) 64 = true := by
  unfold Ir.ready Ir.placed
  simp
theorem placed_rng {s : Cp.St} (h : Cp.Rng s) : Cp.Rng (Ir.placed s 64) :=
  ⟨fun k hk => by
    unfold Ir.placed
    show Cp.W (if k = 0 then 0 else s.R k)
    split
    · exact ⟨by omega, by omega⟩
    · exact h.R k hk, h.hi, h.lo, ⟨by show (0 : Int) ≤ 64; omega, by show (64 : Int) < 4294967296; omega⟩, ⟨by show (0 : Int) ≤ (64 + 4) % 4294967296; omega, by show ((64 : Int) + 4) % 4294967296 < 4294967296; omega⟩, h.status, h.cause, h.epc, h.bad, h.compare, h.count⟩
theorem range_keep {w w' : World} {b : Nat} {cs : List Value} (h : w.rangeAt b 0 cs) (k : Keeps (fun _ => False) w w') : w'.rangeAt b 0 cs := fun j v hv => k.cell' (h j v hv) (fun f => f)
theorem alike_two (g1 g2 : Nat) (m : Nat → Int) (w1 w2 wc : World) (h1 : w1.rowIs g1 23 4096 (fun k => .int .u32 (be m (4 * k) 4))) (h2 : w2.rowIs g2 23 4096 (fun k => .int .u32 (be m (4 * k) 4))) (k1 : Keeps (fun _ => False) w1 wc) (k2 : Keeps (fun _ => False) w2 wc) :
    Calls Tryd.prog 14 #[.slice (some ⟨g1, 0, none⟩) 4096 4096, .slice (some ⟨g2, 0, none⟩) 4096 4096] wc fun e w' => e = .returned (.int .i64 1) ∧ Keeps (fun _ => False) wc w' :=
  alike_same g1 g2 4096 4096 4096 (fun k => be m (4 * k) 4) wc (by omega) (by omega) (by omega) (fun i hi => (k1.row h1 (fun h => h)).cell hi) (fun i hi => (k2.row h2 (fun h => h)).cell hi)
theorem words_two (r pb pw ph : Nat) (m : Nat → Int) (w : World) (R : RamAt w r pb pw ph 16384 m) :
    Calls Tryd.prog 15 #[.pointer (some ⟨r, 0, none⟩)] w fun e w' => ∃ g, e = .returned (.slice (some ⟨g, 0, none⟩) 4096 4096) ∧ w'.rowIs g 23 4096 (fun k => .int .u32 (be m (4 * k) 4)) ∧ Keeps (fun _ => False) w w' :=
  (words_any r pb pw ph 16384 m w R).mono fun e w' h => ⟨_, h.1, h.2.1, h.2.2⟩
theorem new_two (n cap : Nat) (A : Option Addr) (ws : Nat → Int) (w : World) (hR : Reads w A n cap (fun i => .int .u32 (ws i))) (hc : cap ≤ 9223372036854775807) (hr : ∀ i, i < n → 0 ≤ ws i ∧ ws i < 4294967296) :
    Calls Tryd.prog 16 #[.slice A n cap] w fun e w' => ∃ r pb pw ph, e = .returned (.pointer (some ⟨r, 0, none⟩)) ∧ RamAt w' r pb pw ph 16384 (ramOf (min n 4096) ws) ∧ Keeps (fun _ => False) w w' :=
  (new_any n cap A w ws hR hc hr).mono fun e w' h => ⟨_, _, _, _, h.1, h.2.ram, h.2.keeps⟩
theorem yieldsIf_eql_agg {P : Program} {ops : Array Oper} {S : World → Prop} {op : Oper} {a : Act} (hw : Region.wanted op (yielded ops a.tmps) = true) (t t' : TypeId) (x y : Operand) (ho : op.op = .binOp .eql t x y t') (cs : Array Value) (hg : P.eqGuardType P.depth t = false)
    (he : ∀ w, (Op.equal t (.agg cs) (.agg cs)).run P w = .ok true w) (hx : a.eval x = .agg cs) (hy : a.eval y = .agg cs) : YieldsIf P ops S op (.bool true) a :=
  .inl ⟨hw, fun w _ => by
    unfold execOp
    simp only [ho, hx, hy]
    rw [Sem.run_bind, run_bin_agg .eql (.inr rfl) _ x y _ w hg (he w)]
    rfl⟩
/-- what Eval answers, of a code that may be wrong -/
def TrapIs (w : World) (sb r pb pw ph : Nat) (s : Cp.St) (m : Nat → Int) (many : Int) (e : Ending) (w' : World) : Prop :=
  (∃ t a ev, e = .returned (.tuple #[.agg #[.bool t, .int .i64 a], ev]) ∧ ((t = false ∧ ∃ ty u, ev = .iface ty u) ∨ (t = true ∧ ev = .nilIface)) ∧ Keeps (fun _ => False) w w') ∨
  (∃ c pc, e = .returned (.tuple #[.agg #[.bool false, .int .i64 0], .nilIface]) ∧ StAt w' sb (Ir.leaveSt s c pc many) ∧ c.X 0 = s.R 0 ∧ (1 ≤ many ∧ many ≤ 24) ∧ RamAt w' r pb pw ph 16384 (Ir.pend m c.ws) ∧ Keeps (fun b => b = sb ∨ b = pb) w w')
theorem eval_traps (many : Int) (A : Option Addr) (n cap : Nat) (l : List Ir.Op) (sb r pb pw ph : Nat) (s : Cp.St) (m : Nat → Int) (W : Int → Bool) (w : World) (ea : Nat → Addr) (E : ErrsC w ea) (E3 : Errs3 w ea) (V : OpsAt w A n cap l) (hc : cap ≤ 9223372036854775807) (hok : ∀ o ∈ l, OpOk o)
    (hS : StAt w sb s) (hRng : Cp.Rng s) (R : RamAt w r pb pw ph 16384 m) (hW : WatchAt w pw W) (hr : Ir.ready s 64 = true) (hsep : sb ≠ r ∧ sb ≠ pb ∧ sb ≠ pw) :
    Calls Tryd.prog 13 #[.agg #[.int .u32 64, .int .i64 many, .slice A n cap], .pointer (some ⟨sb, 0, none⟩), .pointer (some ⟨r, 0, none⟩)] w (TrapIs w sb r pb pw ph s m many) := by
  by_cases hf : (Ir.fault many l).1 = 0
  · refine (eval_run 64 many A n cap l sb r pb pw ph 16384 s m W w ea E E3 V hc hf hok hS hRng R hW (by decide) hr hsep).mono ?_
    intro e w' h
    have hG := Ir.good_of_fault hf
    have hin : ∀ o ∈ l, Ir.OpIn o := fun o ho => by
      obtain ⟨i, hi, hio⟩ := List.getElem_of_mem ho
      have hio2 : l.getD i Ir.nop = o := by rw [List.getD_eq_getElem?_getD, List.getElem?_eq_getElem hi, hio]; rfl
      have h1 := (Ir.errAt_zero.1 (hG.each i hi)).1
      rw [hio2] at h1
      exact Ir.opIn_of h1 ⟨(hok o ho).imm.1, Int.lt_of_le_sub_one (hok o ho).imm.2⟩
    cases hres : Ir.evGo m W (Ir.mc0 s) l with
    | trap a =>
      rw [hres] at h
      exact .inl ⟨true, a, _, h.1, .inr ⟨rfl, rfl⟩, h.2⟩
    | leave pc c =>
      rw [hres] at h
      exact .inr ⟨c, pc, h.1, h.2.1, (Ir.ev_zero l _ c pc hin hres).trans rfl, hG.range, h.2.2.1, h.2.2.2⟩
    | fell c => exact absurd hres (Ir.ev_no_fell l _ c hG.pos hG.last)
  · refine (eval_bad 64 many A n cap l _ _ w ea E V hc hf).mono ?_
    rintro e w' ⟨⟨ev, rfl, hev⟩, hk⟩
    refine .inl ⟨false, 0, ev, rfl, .inl ⟨rfl, ?_⟩, hk⟩
    rcases hev with ⟨h, _⟩ | ⟨_, _, h⟩ | ⟨_, _, b, h, _⟩
    · exact absurd h hf
    · exact ⟨_, _, h⟩
    · exact ⟨_, _, h⟩
theorem wpList_load_place {ops : Array Oper} {rest : List Oper} {op : Oper} {a : Act} {w : World} {Q : Exit → Act → World → Prop} (x : Operand) (ho : op.op = .load 29 x) (b : Nat) (s : Cp.St) (A : Option Addr) (n cap : Nat) (page : Int) (h : PlaceAt w b s A n cap page)
    (hx : a.eval x = .pointer (some ⟨b, 0, none⟩)) (hw : Region.wanted op (yielded ops a.tmps) = true) (hk : wpList Tryd.prog ops Q rest (a.put op.dst (.agg (placeL s A n cap page).toArray)) w) : wpList Tryd.prog ops Q (op :: rest) a w :=
  BigFrame.wpList_want hw fun _ hK => wp_load_mid _ x ho b 0 hx (placeL s A n cap page) _ h.range Tryd.underlying29 rfl (by
    rw [show (placeL s A n cap page).length = 45 by unfold placeL; rw [List.length_append, stL_len]; rfl]
    kernel_rfl) (hK _ _ hk)
set_option maxHeartbeats 4000000 in
set_option maxRecDepth 100000 in
theorem irTraps_any (many : Int) (A : Option Addr) (n cap : Nat) (l : List Ir.Op) (s : Cp.St) (PA : Option Addr) (pn pcap : Nat) (page : Int) (ws : Nat → Int) (w : World) (ea : Nat → Addr) (E : ErrsC w ea) (E3 : Errs3 w ea) (V : OpsAt w A n cap l) (hc : cap ≤ 9223372036854775807) (hok : ∀ o ∈ l, OpOk o)
    (hR : Reads w PA pn pcap (fun i => .int .u32 (ws i))) (hpc : pcap ≤ 9223372036854775807) (hr : ∀ i, i < pn → 0 ≤ ws i ∧ ws i < 4294967296) (hrng : 0 ≤ s.count → s.count < 4611686018427387904 → Cp.Rng s) :
    Calls Tryd.prog 3 #[.int .i64 many, .slice A n cap, .agg (placeL s PA pn pcap page).toArray] w fun e w' => e = .returned (.bool true) ∧ Keeps (fun _ => False) w w' := by
  have HE := Lib.hid E
  have HE3 := Lib.hid E3
  have HV := Lib.hid V
  have HL := Lib.hid V.len
  have HOK := Lib.hid hok
  have HRD := Lib.hid hR
  have HRR := Lib.hid hr
  have HRNG := Lib.hid hrng
  have hnc := V.le
  have HN := Lib.hid (PlaceAt.new w s PA pn pcap page)
  have HK := Lib.hid ((Keeps.refl (fun _ => False) w).alloc (.cells (placeL s PA pn pcap page).toArray 29))
  clear E E3 V hok hR hr hrng
  go_enter Tryd.func3, Tryd.ntmps3
  go_upto_region 1 with fail
  have HP1 := Lib.hid HN.out
  have HK1 := Lib.hid HK.out
  clear HN HK
  generalize w.alloc _ = w1 at *
  obtain ⟨x, hx⟩ : ∃ x, w.heap.size = x := ⟨_, rfl⟩
  rw [hx] at HP1 ⊢
  have HX := Lib.hid hx
  clear hx
  go_wp2_with fail
  refine (evaluated_any w1 ea (HE.out.quiet HK1.out) (HE3.out.keep HK1.out ⟨fun h => h, fun h => h, fun h => h⟩)).mono ?_
  rintro e w2 ⟨rfl, hk2⟩
  have HP2 := Lib.hid (HP1.out.keep hk2 (fun h => h))
  have HK2 := Lib.hid (HK1.out.trans hk2 (fun _ _ h => h))
  clear hk2
  go_wp2_with fail
  refine (longOps40_any A n cap l w2 (HV.out.quiet HK2.out) hc).mono ?_
  rintro e w3 ⟨r, rfl, hr, hk3⟩
  have HP3 := Lib.hid (HP2.out.keep hk3 (fun h => h))
  have HK3 := Lib.hid (HK2.out.trans hk3 (fun _ _ h => h))
  clear hk3
  rcases hr with rfl | ⟨rfl, hn⟩
  · go_wp2_with fail
    go_ret
    exact ⟨rfl, HK3.out⟩
  go_wp2_with (refine wpList_load_place _ rfl x s PA pn pcap page HP3.out rfl (by first | rfl | decide) ?_)
  refine (longPlace_any s PA pn pcap page w3).mono ?_
  rintro e w4 ⟨b, rfl, hb, hk4⟩
  have HP4 := Lib.hid (HP3.out.keep hk4 (fun h => h))
  have HK4 := Lib.hid (HK3.out.trans hk4 (fun _ _ h => h))
  clear hk4
  cases b
  case true =>
    go_wp2_with fail
    go_ret
    exact ⟨rfl, HK4.out⟩
  obtain ⟨hpn, hc0, hc1⟩ := hb rfl
  clear hb
  have HRG := Lib.hid (placed_rng (HRNG.out hc0 (by omega)))
  have HPR := Lib.hid (placed_ready s)
  have HP0 := Lib.hid (show (Ir.placed s 64).R 0 = 0 ∧ (Ir.placed s 64).count = s.count ∧ (Ir.placed s 64).status = s.status from ⟨rfl, rfl, rfl⟩)
  have HOW := Lib.hid (ownOps_any A n cap l w4 (HV.out.quiet HK4.out) (by omega))
  go_wp2_with fail
  refine HOW.out.mono ?_
  rintro e w5 ⟨v, rfl, ⟨A3, cap3, rfl, ho3⟩, hk5⟩
  have hka := (Keeps.refl (fun _ => False) w5).alloc (.cells #[.int .u32 64, .int .i64 many, .slice A3 l.length cap3] 35)
  have HO3 := Lib.hid ((OpsAt.of_owns ho3 rfl).quiet hka)
  have HCAP := owns_cap ho3
  have HX3 := Lib.hid (CodeBox.new w5 64 many A3 l.length cap3)
  have HK6 := Lib.hid ((HK4.out.trans hk5 (fun _ _ h => h)).trans hka (fun _ _ h => h))
  have HP6 := Lib.hid ((HP4.out.keep hk5 (fun h => h)).keep hka (fun h => h))
  clear hk5 ho3 hka
  go_upto_region 5 with fail
  generalize w5.alloc _ = w6 at *
  generalize w5.heap.size = cb at *
  have HPLC := Lib.hid (fun w => placed_any s PA pn pcap page 64 w (by decide))
  obtain ⟨sp, hsp⟩ : ∃ sp, Ir.placed s 64 = sp := ⟨_, rfl⟩
  rw [hsp] at HRG HPR HP0 HPLC
  clear hsp
  go_wp2_with (refine wpList_load_place _ rfl x s PA pn pcap page HP6.out rfl (by first | rfl | decide) ?_)
  refine (HPLC.out _).mono ?_
  rintro e w7 ⟨rfl, hk7⟩
  have HK7 := Lib.hid (HK6.out.trans hk7 (fun _ _ h => h))
  have HK76 := Lib.hid hk7
  clear hk7
  go_wp2_with (with_reducible refine wpList_store_st rfl _ _ rfl _ _ sp (blk_alloc_new _ _) (by simp) rfl rfl ?_)
  intro w8 hS8 hk8
  have hk8' := ((Keeps.refl (fun _ => False) w7).alloc _).trans hk8 (fun j hj e => absurd (show j = w7.heap.size from e) (Nat.ne_of_lt hj))
  have hl7 : w.heap.size ≤ w7.heap.size := HK7.out.size
  have HS8 := Lib.hid hS8
  have HK8 := Lib.hid (HK7.out.trans hk8' (fun _ _ h => h))
  have HK86 := Lib.hid (HK76.out.trans hk8' (fun _ _ h => h))
  clear hS8 hk8 hk8'
  obtain ⟨sb, hsb⟩ : ∃ b, w7.heap.size = b := ⟨_, rfl⟩
  rw [hsb] at HS8 hl7 ⊢
  clear hsb
  go_wp2_with (first
    | (with_reducible refine wpList_load_st rfl _ rfl sb sp HS8.out rfl ?_)
    | (with_reducible refine wpList_store_st rfl _ _ rfl _ _ sp (blk_alloc_new _ _) (by simp) rfl rfl ?_))
  intro w9 hS9 hk9
  have hk9' := ((Keeps.refl (fun _ => False) w8).alloc _).trans hk9 (fun j hj e => absurd (show j = w8.heap.size from e) (Nat.ne_of_lt hj))
  have hl8 : sb < w8.heap.size := HS8.out.lt
  have HT9 := Lib.hid hS9
  have HS9 := Lib.hid (HS8.out.keep hk9' (fun h => h))
  have HK9 := Lib.hid (HK8.out.trans hk9' (fun _ _ h => h))
  have HK96 := Lib.hid (HK86.out.trans hk9' (fun _ _ h => h))
  clear hS9 hk9 hk9' HS8
  obtain ⟨tb, htb⟩ : ∃ b, w8.heap.size = b := ⟨_, rfl⟩
  rw [htb] at HT9 hl8 ⊢
  clear htb
  have HP9 := Lib.hid (HP6.out.keep HK96.out (fun h => h))
  have HMEM := Lib.hid (memory_any s PA pn pcap page ws w9 ea (HE.out.quiet HK9.out) (HRD.out.keep HK9.out (fun _ _ _ h => h)) hpc HRR.out)
  go_wp2_with (refine wpList_load_place _ rfl x s PA pn pcap page HP9.out rfl (by first | rfl | decide) ?_)
  refine HMEM.out.mono ?_
  rintro e w10 ⟨r, pb, pw, ph, rfl, hRA, hWA, hHM, hnew, hk10⟩
  have hl9 : tb < w9.heap.size := HT9.out.lt
  have HRA := Lib.hid hRA
  have HWA := Lib.hid hWA
  have HHM := Lib.hid hHM
  have HS10 := Lib.hid (HS9.out.keep hk10 (fun h => h))
  have HT10 := Lib.hid (HT9.out.keep hk10 (fun h => h))
  have HK10 := Lib.hid (HK9.out.trans hk10 (fun _ _ h => h))
  have HK106 := Lib.hid (HK96.out.trans hk10 (fun _ _ h => h))
  have HNEW := Lib.hid hnew
  clear hRA hWA hHM hk10 hnew HMEM
  have HP10 := Lib.hid (HP6.out.keep HK106.out (fun h => h))
  obtain ⟨d0, d1, d2, _⟩ := (HX3.out.keep HK106.out (fun h => h)).cells
  have HEV := Lib.hid (eval_traps many A3 l.length cap3 l tb r pb pw ph sp _ _ w10 ea (HE.out.quiet HK10.out) (HE3.out.keep HK10.out ⟨fun h => h, fun h => h, fun h => h⟩) (HO3.out.quiet HK106.out) HCAP HOK.out HT10.out HRG.out HRA.out HWA.out HPR.out (by have := HNEW.out; omega))
  go_wp2_with fail
  refine HEV.out.mono ?_
  rintro e w11 (⟨t, a, ev, rfl, hev, hk11⟩ | ⟨c, pc, rfl, hS11, hz, hmany, hR11, hk11⟩)
  · have hne := HNEW.out
    go_upto_region 9 with fail
    have HE12 := Lib.hid (EndBox.new w11 t a)
    have hka := (Keeps.refl (fun _ => False) w11).alloc (.cells #[.bool t, .int .i64 a] 40)
    have HK12 := Lib.hid ((HK10.out.trans hk11 (fun _ _ h => h)).trans hka (fun _ _ h => h))
    have HP12 := Lib.hid ((HP10.out.keep hk11 (fun h => h)).keep hka (fun h => h))
    have HS12 := Lib.hid ((HS10.out.keep hk11 (fun h => h)).keep hka (fun h => h))
    have HT12 := Lib.hid ((HT10.out.keep hk11 (fun h => h)).keep hka (fun h => h))
    have HR12 := Lib.hid ((HRA.out.keep hk11 (fun h => h) (fun h => h)).keep hka (fun h => h) (fun h => h))
    clear hk11 hka d0 d1 d2
    generalize w11.alloc _ = w12 at *
    generalize w11.heap.size = eb at *
    obtain ⟨z0, _, _, _⟩ := HE12.out.cells
    rcases hev with ⟨rfl, ty, u, rfl⟩ | ⟨rfl, rfl⟩
    all_goals
      go_upto_region 12 with fail
      have hr1 := HT12.out.range
      have hr2 := HS12.out.range
      have C43 := Lib.hid HP12.out.tail.1
      have HI : Hid ((Tryd.prog.info? 26).map (·.size) = some (stL sp).length) := Lib.hid (by rw [stL_len]; exact size_st)
      have HU := Lib.hid Tryd.underlying26
      have HQ := Lib.hid (fun w => equal_st w sp HRG.out)
      clear HEV HS10 HT10 HP10 HRA HWA HHM HP1 HP2 HP3 HP4 HP6 HP9 HOW HPLC z0
      generalize stL sp = cs at hr1 hr2 HI HQ ⊢
      refine wp_region_held_drew (S := fun w' => Keeps (fun _ => False) w12 w') (by kernel_rfl) (Keeps.refl _ w12).drew (fun hH0 => ?_)
      refine wpAnyH_take (i := 0) (v := .agg cs.toArray) rfl (by kernel_rfl) (by kernel_rfl) (by kernel_rfl) (fun _ _ _ h => h) (yieldsIf_load_mid (by rfl) 26 (.tmp 10) rfl tb 0 (by go_simp) cs _ (fun w' hSw => range_keep hr1 hSw) HU.out rfl HI.out) hH0 ?_
      simp only [Act.put, List.setIfInBounds_toArray, List.set_cons_zero, List.set_cons_succ]
      refine wpAnyH_take (i := 1) (v := .agg cs.toArray) rfl (by kernel_rfl) (by kernel_rfl) (by kernel_rfl) (fun _ _ _ h => h) (yieldsIf_load_mid (by rfl) 26 (.tmp 9) rfl sb 0 (by go_simp) cs _ (fun w' hSw => range_keep hr2 hSw) HU.out rfl HI.out) hH0 ?_
      simp only [Act.put, List.setIfInBounds_toArray, List.set_cons_zero, List.set_cons_succ]
      refine wpAnyH_take (i := 2) (v := .bool true) rfl (by kernel_rfl) (by kernel_rfl) (by kernel_rfl) (fun _ _ _ h => h) (yieldsIf_eql_agg (by rfl) 26 26 (.tmp 50) (.tmp 51) rfl cs.toArray eqg_st HQ.out (by go_simp) (by go_simp)) hH0 ?_
      simp only [Act.put, List.setIfInBounds_toArray, List.set_cons_zero, List.set_cons_succ]
      refine wpAnyH_take (i := 3) (v := ?_) rfl (by kernel_rfl) (by kernel_rfl) (by kernel_rfl) (fun _ _ _ h => h) (Or.inl ⟨by rfl, ?_⟩) hH0 ?_
      rotate_left
      · intro w' hSw
        go_simp
        try with_reducible rfl
      simp only [Act.put, List.setIfInBounds_toArray, List.set_cons_zero, List.set_cons_succ]
      refine wpAnyH_take (i := 4) (v := ?_) rfl (by kernel_rfl) (by kernel_rfl) (by kernel_rfl) (fun _ _ _ h => h) (Or.inl ⟨by go_simp, ?_⟩) hH0 ?_
      rotate_left
      · intro w' hSw
        go_simp
        try with_reducible rfl
      simp only [Act.put, List.setIfInBounds_toArray, List.set_cons_zero, List.set_cons_succ]
      refine wpAnyH_take (i := 6) (v := ?_) rfl (by kernel_rfl) (by kernel_rfl) (by kernel_rfl) (fun _ _ _ h => h) (Or.inl ⟨by go_simp, ?_⟩) hH0 ?_
      rotate_left
      · intro w' hSw
        go_simp
        try with_reducible rfl
      simp only [Act.put, List.setIfInBounds_toArray, List.set_cons_zero, List.set_cons_succ]
      refine wpAnyH_take (i := 7) (v := ?_) rfl (by kernel_rfl) (by kernel_rfl) (by kernel_rfl) (fun _ _ _ h => h) (Or.inl ⟨by go_simp, ?_⟩) hH0 ?_
      rotate_left
      · intro w' hSw
        have c := Keeps.cell' hSw C43.out (fun f => f)
        go_simp
        try with_reducible rfl
      simp only [Act.put, List.setIfInBounds_toArray, List.set_cons_zero, List.set_cons_succ]
      refine wpAnyH_ready (rs := [5]) (by kernel_rfl) (by simp) ?_
      refine AllReadyH.cons rfl (fun K hK => ?_) AllReadyH.nil
      go_simp
      refine (words_two r pb pw ph _ _ (HR12.out.keep hH0 (fun h => h) (fun h => h))).mono ?_
      rintro e wx1 ⟨g1, rfl, hra1, hkx1⟩
      go_wp2_with fail
      have hH1 := Keeps.trans hH0 hkx1 (fun _ _ h => h)
      refine hK.out _ _ hH1 (fun _ => ?_)
      clear hK K
      try simp only [Act.put, List.setIfInBounds_toArray, List.set_cons_zero, List.set_cons_succ]
      refine wpAnyH_ready (rs := [8]) (by kernel_rfl) (by simp) ?_
      refine AllReadyH.cons rfl (fun K hK => ?_) AllReadyH.nil
      go_simp
      refine (new_two pn pcap PA ws _ (HRD.out.keep (HK12.out.trans hH1 (fun _ _ h => h)) (fun _ _ _ h => h)) hpc HRR.out).mono ?_
      rintro e wx2 ⟨r2, pb2, pw2, ph2, rfl, hR2, hkx2⟩
      go_wp2_with fail
      have hH2 := Keeps.trans hH1 hkx2 (fun _ _ h => h)
      refine hK.out _ _ hH2 (fun _ => ?_)
      clear hK K
      try simp only [Act.put, List.setIfInBounds_toArray, List.set_cons_zero, List.set_cons_succ]
      refine wpAnyH_ready (rs := [9]) (by kernel_rfl) (by simp) ?_
      refine AllReadyH.cons rfl (fun K hK => ?_) AllReadyH.nil
      go_simp
      refine (words_two r2 pb2 pw2 ph2 _ _ hR2).mono ?_
      rintro e wx3 ⟨g2, rfl, hra2, hkx3⟩
      go_wp2_with fail
      have hH3 := Keeps.trans hH2 hkx3 (fun _ _ h => h)
      refine hK.out _ _ hH3 (fun _ => ?_)
      clear hK K
      try simp only [Act.put, List.setIfInBounds_toArray, List.set_cons_zero, List.set_cons_succ]
      refine wpAnyH_ready (rs := [10]) (by kernel_rfl) (by simp) ?_
      refine AllReadyH.cons rfl (fun K hK => ?_) AllReadyH.nil
      go_simp
      refine (alike_two g1 g2 _ wx1 wx3 _ hra1 hra2 (hkx2.trans hkx3 (fun _ _ h => h)) (Keeps.refl _ _)).mono ?_
      rintro e wy ⟨rfl, hky⟩
      go_wp2_with fail
      have hH4 := Keeps.trans hH3 hky (fun _ _ h => h)
      refine hK.out _ _ hH4 (fun _ => ?_)
      clear hK K
      try simp only [Act.put, List.setIfInBounds_toArray, List.set_cons_zero, List.set_cons_succ]
      refine wpAnyH_ready (rs := [11]) (by kernel_rfl) (by simp) ?_
      refine AllReadyH.cons rfl (fun K hK => ?_) AllReadyH.nil
      go_simp
      refine hK.out _ _ hH4 (fun _ => ?_)
      clear hK K
      try simp only [Act.put, List.setIfInBounds_toArray, List.set_cons_zero, List.set_cons_succ]
      refine wpAnyH_ready (rs := [12]) (by kernel_rfl) (by simp) ?_
      refine AllReadyH.cons rfl (fun K hK => ?_) AllReadyH.nil
      go_simp
      refine hK.out _ _ hH4 (fun _ => ?_)
      clear hK K
      try simp only [Act.put, List.setIfInBounds_toArray, List.set_cons_zero, List.set_cons_succ]
      refine wpAnyH_ready (rs := [13]) (by kernel_rfl) (by simp) ?_
      refine AllReadyH.cons rfl (fun K hK => ?_) AllReadyH.nil
      go_simp
      refine hK.out _ _ hH4 (fun _ => ?_)
      clear hK K
      try simp only [Act.put, List.setIfInBounds_toArray, List.set_cons_zero, List.set_cons_succ]
      refine wpAnyH_done (by kernel_rfl) ?_ _
      go_wp2_with fail
      go_ret
      refine ⟨?_, HK12.out.trans hH4 (fun _ _ h => h)⟩
      go_simp
  · have hne := HNEW.out
    go_upto_region 9 with fail
    have HE12 := Lib.hid (EndBox.new w11 false 0)
    have hka := (Keeps.refl (fun _ => False) w11).alloc (.cells #[.bool false, .int .i64 0] 40)
    have HK12 := Lib.hid ((HK10.out.trans hk11 (fun b hb h => by have := HNEW.out; have := HX.out; rcases h with h | h <;> omega)).trans hka (fun _ _ h => h))
    have hs12 := (HS10.out.keep hk11 (fun h => by have := HNEW.out; rcases h with h | h <;> omega)).keep hka (fun h => h)
    have ht12 := hS11.keep hka (fun h => h)
    have HR12 := Lib.hid (hR11.keep hka (fun h => h) (fun h => h))
    have HH12 := Lib.hid (hka.map (hk11.map HHM.out (fun h => by have := HNEW.out; have := HRA.out.apart; rcases h with h | h <;> omega)) (fun h => h))
    clear hk11 hka d0 d1 d2 hS11 hR11
    generalize w11.alloc _ = w12 at *
    generalize w11.heap.size = eb at *
    obtain ⟨z0, _, _, _⟩ := HE12.out.cells
    have x0 := ht12.reg 0 (by omega)
    obtain ⟨_, _, x2, x3, _, x5, _, _, _, _, x10⟩ := ht12.cells
    obtain ⟨_, _, _, _, _, s5, _, _, _, _, s10⟩ := hs12.cells
    rw [show (Ir.leaveSt sp c pc many).R 0 = 0 from hz.trans HP0.out.1] at x0
    rw [show (Ir.leaveSt sp c pc many).pc = pc from rfl] at x2
    rw [show (Ir.leaveSt sp c pc many).next = (pc + 4) % 4294967296 from rfl] at x3
    rw [show (Ir.leaveSt sp c pc many).status = sp.status from rfl] at x5
    rw [show (Ir.leaveSt sp c pc many).count = sp.count + many from rfl] at x10
    have hcc : 0 ≤ sp.count ∧ sp.count ≤ 1099511627776 := by rw [HP0.out.2.1]; exact ⟨hc0, hc1⟩
    obtain ⟨hcc0, hcc1⟩ := hcc
    obtain ⟨hm0, hm1⟩ := hmany
    clear hs12 ht12 hz
    have HHI := Lib.hid (hits_none r pb pw ph 16384 _ w12 HR12.out HH12.out)
    go_wp2_with fail
    refine HHI.out.mono ?_
    rintro e w13 ⟨rfl, hk13⟩
    have HK13 := Lib.hid (HK12.out.trans hk13 (fun b hb h => by have h : b = ph := h; have := HNEW.out; have := HX.out; omega))
    clear hk13
    go_wp2_with fail
    go_ret
    refine ⟨?_, HK13.out⟩
    go_simp
end Go.Proofs.YtaflchcoddgdbaaDoor
