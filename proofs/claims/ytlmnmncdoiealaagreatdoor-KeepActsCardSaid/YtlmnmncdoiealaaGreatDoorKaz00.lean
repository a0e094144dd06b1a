import Derived.Test.YtlmnmncdoiealaaGreatDoorFoldL
import Derived.Deep.RegionHeld3
import Derived.Laws.CopyRow
import Derived.Test.YtlmnmncdoiealaaGreatDoorKeepG
import Derived.Test.YtlmnmncdoiealaaGreatDoorOptDefs
import Derived.Test.YtlmnmncdoiealaaGreatDoorIrOps
import Derived.Deep.QuietTactic

/- Delete -/
/- The walk of slices.Delete on a row of ops of the call's own, one op taken out. -/
namespace Go.Proofs.YtlmnmncdoiealaaGreatDoor
open Go.RowKit Go.Deep
set_option linter.unusedVariables false
set_option linter.unusedSimpArgs false

/-- 'append' in place, at one operation -/
theorem wp_append_in {P : Program} (w : World) {o : Oper} {a : Act} {K : Act → World → Prop} {Q : Exit → Act → World → Prop} (s x : Operand) (t e : TypeId) (i : TypeInfo) (size : Nat)
    (hop : o.op = Op.call { callee := Callee.builtin Builtin.append, args := #[s, x], argTypes := #[t, t] }) (ht : P.underlying t = some (.slice e)) (hi : P.info? e = some i) (hsz : i.size = size)
    (g n cap : Nat) (cur : Array Value) (hg : w.heap[g]? = some (.cells cur e (0, 0))) (ad : Addr) (m c : Nat) (news : List Value) (hs : a.eval s = .slice (some ⟨g, 0, none⟩) n cap) (hx : a.eval x = .slice (some ad) m c)
    (hl : news.length = m * size) (hnews : ∀ j u, news[j]? = some u → w.cell? (ad.add j) = some u) (h1 : ∀ u ∈ news, u.oneCell' = true) (hroom : n + m ≤ cap) (hfit : n * size + news.length ≤ cur.size)
    (h : K (a.put o.dst (.slice (some ⟨g, 0, none⟩) (n + m) cap)) (w.setRow g (cur.toList.take (n * size) ++ news ++ cur.toList.drop (n * size + news.length)).toArray)) : Oper.wp P o a w K Q := by
  subst hsz
  have hrun := run_append_room (P := P) w t o.type e i ht hi g n cap cur hg ad m c news hl hnews h1 hroom hfit
  unfold Oper.wp
  simp [execOp, hop, resolve, invoke, builtin, hs, hx, hrun, Result.andThen]
  rw [List.append_assoc] at h
  exact h
theorem run_clear_op (w : World) (ty : TypeId) (g o c : Nat) (cur : Array Value) (hg : w.heap[g]? = some (.cells cur 64 (0, 0))) (hfit : o + 6 ≤ cur.size) :
    (Builtin.clear_ #[40] ty #[.slice (some ⟨g, o, none⟩) 1 c]).run Tryz.prog w = .ok (.tuple #[]) (w.setRow g (cur.toList.take o ++ (opC ⟨ByteArray.empty, 0, 0, 0, 0, 0⟩).toList ++ cur.toList.drop (o + 6)).toArray) := by
  have hz : ∀ w, (zeroValue 64).run Tryz.prog w = .ok (.agg (opC ⟨ByteArray.empty, 0, 0, 0, 0, 0⟩)) w := fun w => by kernel_rfl
  have hc : (Builtin.zeroCells (Value.agg (opC ⟨ByteArray.empty, 0, 0, 0, 0, 0⟩)).cells 1).toList = (opC ⟨ByteArray.empty, 0, 0, 0, 0, 0⟩).toList := by kernel_rfl
  have hst := run_storeCells_at Tryz.prog g o 64 (opC ⟨ByteArray.empty, 0, 0, 0, 0, 0⟩).toList 0 cur w hg (by exact hfit) (by decide +kernel)
  simp only [Nat.add_zero] at hst
  simp [Builtin.clear_, run_underlying Tryz.underlying40, hz, hc, hst]
  rfl
theorem opsL_append (a b : List Ir.Op) : opsL (a ++ b) = opsL a ++ opsL b := by unfold opsL; rw [List.flatMap_append]
theorem opsL_take (l : List Ir.Op) (i : Nat) (hi : i ≤ l.length) : (opsL l).take (i * 6) = opsL (l.take i) := by
  have h := opsL_append (l.take i) (l.drop i)
  rw [List.take_append_drop] at h
  rw [h, List.take_append_of_le_length (by rw [opsL_len, List.length_take]; omega)]
  exact List.take_of_length_le (by rw [opsL_len, List.length_take]; omega)
theorem opsL_drop (l : List Ir.Op) (i : Nat) (hi : i ≤ l.length) : (opsL l).drop (i * 6) = opsL (l.drop i) := by
  have h := opsL_append (l.take i) (l.drop i)
  rw [List.take_append_drop] at h
  have e : (opsL (l.take i)).length = i * 6 := by rw [opsL_len, List.length_take]; omega
  rw [h, ← e, List.drop_left]
end Go.Proofs.YtlmnmncdoiealaaGreatDoor

/- KeepD -/
/- The walk of slices.Delete over kept plans: turned from XDelete by a program. -/
namespace Go.Proofs.YtlmnmncdoiealaaGreatDoor
open Go.RowKit Go.Deep
set_option linter.unusedVariables false
set_option linter.unusedSimpArgs false

theorem run_clear_k1 (w : World) (ty : TypeId) (g o c : Nat) (cur : Array Value) (hg : w.heap[g]? = some (.cells cur 77 (0, 0))) (hfit : o + 4 ≤ cur.size) :
    (Builtin.clear_ #[65] ty #[.slice (some ⟨g, o, none⟩) 1 c]).run Tryz.prog w = .ok (.tuple #[]) (w.setRow g (cur.toList.take o ++ kZ.toList ++ cur.toList.drop (o + 4)).toArray) := by
  have hz : ∀ w, (zeroValue 77).run Tryz.prog w = .ok (.agg (kZ)) w := fun w => by kernel_rfl
  have hc : (Builtin.zeroCells (Value.agg (kZ)).cells 1).toList = kZ.toList := by kernel_rfl
  have hst := run_storeCells_at Tryz.prog g o 77 kZ.toList 0 cur w hg (by exact hfit) (by decide +kernel)
  simp only [Nat.add_zero] at hst
  simp [Builtin.clear_, run_underlying Tryz.underlying65, hz, hc, hst]
  rfl
set_option maxHeartbeats 4000000 in
set_option maxRecDepth 100000 in
theorem kdelete_any (base g n cap i : Nat) (l : List K4) (w : World) (h : w.ownsRow base 77 4 (.slice (some ⟨g, 0, none⟩) n cap) n (kL l)) (hl : l.length = n) (hi : i < n) (hn : n < 1000000) :
    Calls Tryz.prog 33 #[.slice (some ⟨g, 0, none⟩) n cap, .int .i64 i, .int .i64 ((i + 1 : Nat) : Int)] w fun e w' => e = .returned (.slice (some ⟨g, 0, none⟩) (n - 1) cap) ∧ w'.ownsRow base 77 4 (.slice (some ⟨g, 0, none⟩) (n - 1) cap) (n - 1) (kL (l.eraseIdx i)) ∧ Keeps (· = g) w w' := by
  obtain ⟨i0, hinf, hz0, hz1, hz2⟩ := info_parts Tryz.info_kept
  obtain ⟨hlen, ⟨h0, _⟩ | ⟨g', cap', cur, h2, h3, h4, h5, h6, h7, h8⟩⟩ := h
  · cases h0
  injection h2 with e1 e2 e3
  injection e1 with e1
  injection e1 with e1
  subst e1 e3
  clear e2
  obtain ⟨j, hj⟩ : ∃ j, j = i + 1 := ⟨_, rfl⟩
  obtain ⟨m, hm⟩ : ∃ m, m + 1 = n := ⟨n - 1, by omega⟩
  rw [← hj, show n - 1 = m by omega]
  have hij : i < j := by omega
  have hjn : j ≤ n := by omega
  have hmn : m < n := by omega
  have hnc : n ≤ cap := h5
  have hjc : j ≤ cap := by omega
  have hic : i ≤ cap := by omega
  have hne : ((i : Int) == (j : Int)) = false := by
    rw [beq_eq_false_iff_ne]
    omega
  have HX := Lib.hid h4
  have HN := Lib.hid (show ∀ q u, (kL (l.drop j))[q]? = some u → w.cell? ((⟨g, j * 4, none⟩ : Addr).add q) = some u from fun q u hq => by
    have hql : q < (kL (l.drop j)).length := (List.getElem?_eq_some_iff.1 hq).1
    rw [kL_len, List.length_drop, hl] at hql
    rw [← kL_drop l j (by omega), List.getElem?_drop, ← h8, List.getElem?_take_of_lt (by omega)] at hq
    rw [Addr.add_lit]
    simp only [World.cell?, h4]
    simpa using hq)
  have hfit : i * 4 + (kL (l.drop j)).length ≤ cur.size := by rw [kL_len, List.length_drop, hl, h7]; omega
  have hdl : (kL (l.drop j)).length = (n - j) * 4 := by rw [kL_len, List.length_drop, hl]
  have hmj : i + (n - j) = m := by omega
  obtain ⟨cur1, hc1⟩ : ∃ c, c = (cur.toList.take (i * 4) ++ kL (l.drop j) ++ cur.toList.drop (i * 4 + (kL (l.drop j)).length)).toArray := ⟨_, rfl⟩
  have hs1 : cur1.size = cap * 4 := by
    rw [hc1]
    simp only [List.size_toArray, List.length_append, List.length_take, List.length_drop, Array.length_toList, hdl]
    omega
  have ht1 : cur1.toList.take (m * 4) = kL (l.eraseIdx i) := by
    have e1 : cur.toList.take (i * 4) = kL (l.take i) := by
      rw [← kL_take l i (by omega), ← h8, List.take_take, Nat.min_eq_left (by omega)]
    have e2 : l.eraseIdx i = l.take i ++ l.drop j := by rw [hj]; exact List.eraseIdx_eq_take_drop_succ l i
    have e3 : (kL (l.take i) ++ kL (l.drop j)).length = m * 4 := by
      rw [List.length_append, kL_len, hdl, List.length_take]
      omega
    rw [hc1, e1, e2, kL_append, ← e3, List.take_left]
  have H1 := Lib.hid (show (w.drew.setRow g cur1).heap[g]? = some (.cells cur1 77 (0, 0)) from setRow_heap w.drew g cur _ _ _ h4)
  have K1 := Lib.hid (show Keeps (· = g) w (w.drew.setRow g cur1) from ((Keeps.refl (· = g) w).drew).setRow (fun _ => rfl) cur1)
  have HC1 := Lib.hid hc1
  have HS1 := Lib.hid hs1
  have HT1 := Lib.hid ht1
  have HFT := Lib.hid hfit
  have HDL := Lib.hid hdl
  have HMJ := Lib.hid hmj
  have HH := Lib.hid (And.intro h3 h6)
  have HJ := Lib.hid hj
  have HM := Lib.hid hm
  clear hc1 hs1 ht1 hj hm hlen h8 h7 h4 h3 h6 hfit hdl hl hmj
  by_cases hcj : cap = j
  · obtain rfl : n = j := by omega
    subst hcj
    have hmi : m = i := by have := HMJ.out; omega
    subst hmi
    have hcc : cur1 = cur := by
      have e : kL (l.drop cap) = [] := List.eq_nil_of_length_eq_zero (HDL.out.trans (by simp))
      rw [HC1.out, e]
      simp
    have HH1 := Lib.hid (show w.drew.heap[g]? = some (.cells cur1 77 (0, 0)) by rw [hcc]; exact HX.out)
    have HK1 := Lib.hid (show Keeps (· = g) w w.drew from (Keeps.refl (· = g) w).drew)
    clear hcc
    go_enter Tryz.func33, Tryz.ntmps33
    go_upto_region 5 with fail
    go_region_held3 (fun _ => True) (trivial)
      (fail)
    have h1 := HH1.out
    have k1 := HK1.out
    clear HH1 HK1 H1 K1
    generalize w.drew = w1 at *
    have hcl := fun ty => run_clear_k1 w1 ty g (m * 4) (cap - m) cur1 h1 (by rw [HS1.out]; omega)
    have h2 := setRow_heap w1 g cur1 (cur1.toList.take (m * 4) ++ kZ.toList ++ cur1.toList.drop (m * 4 + 4)).toArray _ _ h1
    have k2 : Keeps (· = g) w (w1.setRow g (cur1.toList.take (m * 4) ++ kZ.toList ++ cur1.toList.drop (m * 4 + 4)).toArray) := k1.setRow (fun _ => rfl) _
    obtain ⟨cur2, hc2⟩ : ∃ c, c = (cur1.toList.take (m * 4) ++ kZ.toList ++ cur1.toList.drop (m * 4 + 4)).toArray := ⟨_, rfl⟩
    rw [← hc2] at h2 k2
    simp only [← hc2] at hcl
    have HC2 := Lib.hid hc2
    have H2 := Lib.hid h2
    have K2 := Lib.hid k2
    clear h1 k1 hc2 h2 k2
    have HMN := HM.out
    have hml : m ≤ cap := by omega
    have hnm : cap - m = 1 := by omega
    rw [hnm] at hcl
    clear HMN
    go_wp2_with fail
    go_ret
    refine ⟨rfl, ⟨?_, .inr ⟨g, cap, cur2, rfl, HH.out.1, H2.out, by omega, HH.out.2, ?_, ?_⟩⟩, K2.out⟩
    · rw [← HT1.out, List.length_take, Array.length_toList, HS1.out]
      omega
    · rw [HC2.out]
      simp only [List.size_toArray, List.length_append, List.length_take, List.length_drop, Array.length_toList, HS1.out]
      show min (m * 4) (cap * 4) + 4 + _ = _
      omega
    · rw [← HT1.out, HC2.out]
      simp only [List.append_assoc]
      rw [List.take_append_of_le_length (by rw [List.length_take, Array.length_toList, HS1.out]; omega), List.take_take, Nat.min_self]
  · go_enter Tryz.func33, Tryz.ntmps33
    go_upto_region 5 with fail
    go_region_held3 (fun _ => True) (trivial)
      (refine wp_append_in _ _ _ 65 77 i0 4 rfl Tryz.underlying65 hinf hz1 g i cap cur HX.out ⟨g, j * 4, none⟩ (n - j) _ (kL (l.drop j)) rfl rfl HDL.out HN.out (kL_one _) (by omega) HFT.out ?_)
    rw [← HC1.out, HMJ.out]
    have h1 := H1.out
    have k1 := K1.out
    clear H1 K1
    generalize w.drew.setRow g cur1 = w1 at *
    have hcl := fun ty => run_clear_k1 w1 ty g (m * 4) (cap - m) cur1 h1 (by rw [HS1.out]; omega)
    have h2 := setRow_heap w1 g cur1 (cur1.toList.take (m * 4) ++ kZ.toList ++ cur1.toList.drop (m * 4 + 4)).toArray _ _ h1
    have k2 : Keeps (· = g) w (w1.setRow g (cur1.toList.take (m * 4) ++ kZ.toList ++ cur1.toList.drop (m * 4 + 4)).toArray) := k1.setRow (fun _ => rfl) _
    obtain ⟨cur2, hc2⟩ : ∃ c, c = (cur1.toList.take (m * 4) ++ kZ.toList ++ cur1.toList.drop (m * 4 + 4)).toArray := ⟨_, rfl⟩
    rw [← hc2] at h2 k2
    simp only [← hc2] at hcl
    have HC2 := Lib.hid hc2
    have H2 := Lib.hid h2
    have K2 := Lib.hid k2
    clear h1 k1 hc2 h2 k2
    have HMN := HM.out
    have hml : m ≤ n := by omega
    have hmc : m ≤ cap := by omega
    have hnm : n - m = 1 := by omega
    clear HMN
    go_wp2_with fail
    go_ret
    refine ⟨rfl, ⟨?_, .inr ⟨g, cap, cur2, rfl, HH.out.1, H2.out, by omega, HH.out.2, ?_, ?_⟩⟩, K2.out⟩
    · rw [← HT1.out, List.length_take, Array.length_toList, HS1.out]
      omega
    · rw [HC2.out]
      simp only [List.size_toArray, List.length_append, List.length_take, List.length_drop, Array.length_toList, HS1.out]
      show min (m * 4) (cap * 4) + 4 + _ = _
      omega
    · rw [← HT1.out, HC2.out]
      simp only [List.append_assoc]
      rw [List.take_append_of_le_length (by rw [List.length_take, Array.length_toList, HS1.out]; omega), List.take_take, Nat.min_self]
end Go.Proofs.YtlmnmncdoiealaaGreatDoor

/- SweepL -/
/- Sweeping, plainly: one step of it. -/
namespace Go.Proofs.YtlmnmncdoiealaaGreatDoor
namespace Ir
theorem sweepGo_same : ∀ (n m : Nat) (l : List Op), l.length ≤ n → l.length ≤ m → sweepGo n l = sweepGo m l
  | 0, 0, l, _, _ => rfl
  | 0, m + 1, l, hn, _ => by
    obtain rfl : l = [] := List.eq_nil_of_length_eq_zero (by omega)
    rfl
  | n + 1, 0, l, _, hm => by
    obtain rfl : l = [] := List.eq_nil_of_length_eq_zero (by omega)
    rfl
  | n + 1, m + 1, l, hn, hm => by
    unfold sweepGo
    split
    · rename_i i hi
      have h1 := (firstDead_some hi).1
      have h3 : (l.eraseIdx i).length = l.length - 1 := List.length_eraseIdx_of_lt h1
      exact sweepGo_same n m _ (by omega) (by omega)
    · rfl
theorem sweep_none {l : List Op} (h : ∀ j, j < l.length → dead l j = false) : sweep l = l := by
  have hf : firstDead l = none := by
    unfold firstDead
    rw [List.find?_eq_none]
    intro j hj
    simp [h j (List.mem_range.1 hj)]
  unfold sweep
  cases hl : l.length with
  | zero => rfl
  | succ n => unfold sweepGo; rw [hf]
theorem firstDead_at {l : List Op} {i : Nat} (hi : i < l.length) (hd : dead l i = true) (h : ∀ j, j < i → dead l j = false) : firstDead l = some i := by
  unfold firstDead
  rw [List.find?_range_eq_some]
  refine ⟨hd, List.mem_range.2 hi, fun j hj => ?_⟩
  simp [h j hj]
theorem sweep_step {l : List Op} {i : Nat} (hi : i < l.length) (hd : dead l i = true) (h : ∀ j, j < i → dead l j = false) : sweep l = sweep (l.eraseIdx i) := by
  have h3 : (l.eraseIdx i).length = l.length - 1 := List.length_eraseIdx_of_lt hi
  unfold sweep
  cases hl : l.length with
  | zero => omega
  | succ n =>
    conv => lhs; unfold sweepGo
    rw [firstDead_at hi hd h]
    exact sweepGo_same _ _ _ (by omega) (by omega)
end Ir
end Go.Proofs.YtlmnmncdoiealaaGreatDoor

/- IrCheck -/
/- The walk of ir.Check: what it answers is Ir.fault. -/
namespace Go.Proofs.YtlmnmncdoiealaaGreatDoor
open Go.RowKit Go.Deep
set_option linter.unusedVariables false
set_option linter.unusedSimpArgs false

/-- an error with its place, as it lies -/
def FaultIs (w : World) (ea : Nat → Addr) (f : Nat × Int) (v : Value) : Prop :=
  (f.1 = 0 ∧ v = .nilIface) ∨ (f.1 ≠ 0 ∧ f.2 = -1 ∧ v = errV ea f.1) ∨ (f.1 ≠ 0 ∧ f.2 ≠ -1 ∧ ∃ b, v = .iface 86 (.pointer (some ⟨b, 0, none⟩)) ∧ w.cell? ⟨b, 0, none⟩ = some (.int .i64 f.2) ∧ w.cell? ⟨b, 1, none⟩ = some (errV ea f.1))
theorem FaultIs.keep {w w' : World} {ea : Nat → Addr} {f : Nat × Int} {v : Value} (h : FaultIs w ea f v) (k : Keeps (fun _ => False) w w') : FaultIs w' ea f v := by
  rcases h with h | h | ⟨h1, h2, b, h3, h4, h5⟩
  · exact .inl h
  · exact .inr (.inl h)
  · exact .inr (.inr ⟨h1, h2, b, h3, k.cell' h4 (fun h => h), k.cell' h5 (fun h => h)⟩)
theorem FaultIs.bare {w : World} {ea : Nat → Addr} {f : Nat × Int} {c : Nat} (h : f = (c, -1)) (hc : c ≠ 0) : FaultIs w ea f (errV ea c) := by
  subst h
  exact .inr (.inl ⟨hc, rfl, rfl⟩)
theorem FaultIs.placed {ea : Nat → Addr} {f : Nat × Int} {c : Nat} {i : Int} (h : f = (c, i)) (hc : c ≠ 0) (hi : i ≠ -1) (w : World) : FaultIs (w.alloc (.cells #[.int .i64 i, .iface 168 (.pointer (some (ea c)))] 90)) ea f (.iface 86 (.pointer (some ⟨w.heap.size, 0, none⟩))) := by
  subst h
  refine .inr (.inr ⟨hc, hi, w.heap.size, rfl, ?_, ?_⟩) <;> (unfold World.cell?; rw [blk_alloc_new]; rfl)
/-- a code as it lies: three cells -/
structure CodeAt (w : World) (x : Nat) (pc many : Int) (A : Option Addr) (n cap : Nat) : Prop where
  v0 : w.cell? ⟨x, 0, none⟩ = some (.int .u32 pc)
  v1 : w.cell? ⟨x, 1, none⟩ = some (.int .i64 many)
  v2 : w.cell? ⟨x, 2, none⟩ = some (.slice A n cap)
theorem CodeAt.keep {S : Nat → Prop} {w w' : World} {x : Nat} {pc many : Int} {A : Option Addr} {n cap : Nat} (V : CodeAt w x pc many A n cap) (k : Keeps S w w') (h : ¬ S x) : CodeAt w' x pc many A n cap :=
  ⟨k.cell' V.v0 h, k.cell' V.v1 h, k.cell' V.v2 h⟩
theorem code_new (w : World) (pc many : Int) (A : Option Addr) (n cap : Nat) (T : TypeId) : CodeAt (w.alloc (.cells #[.int .u32 pc, .int .i64 many, .slice A n cap] T)) w.heap.size pc many A n cap ∧ Keeps (fun _ => False) w (w.alloc (.cells #[.int .u32 pc, .int .i64 many, .slice A n cap] T)) := by
  refine ⟨?_, (Keeps.refl _ _).alloc _⟩
  constructor <;> (unfold World.cell?; rw [blk_alloc_new]; rfl)
theorem opErr_le (o : Ir.Op) (many : Int) : Ir.opErr o many ≤ 4 := by unfold Ir.opErr; split <;> (try split) <;> (try split) <;> omega

end Go.Proofs.YtlmnmncdoiealaaGreatDoor

/- OptL -/
/- Of better codes, what the walks need: ranges, and what Opt answers. -/
namespace Go.Proofs.YtlmnmncdoiealaaGreatDoor
open Go.RowKit Go.Deep
set_option linter.unusedVariables false
set_option linter.unusedSimpArgs false

theorem regs_b {o : Ir.Op} {many : Int} (h : Ir.opErr o many = 0) (hs : Ir.isSum (Ir.kn o.k) = true) : 0 ≤ o.b ∧ o.b < 64 := by
  unfold Ir.opErr at h
  split at h
  · cases h
  split at h
  · cases h
  rename_i h2
  rw [Bool.not_eq_false] at h2
  simp only [Bool.and_eq_true, decide_eq_true_eq] at h2
  obtain ⟨⟨⟨h3, h4⟩, h5⟩, h6⟩ := h2
  unfold Ir.regs at h3
  simp only [Bool.and_eq_true, Bool.or_eq_true, decide_eq_true_eq, Bool.not_eq_true'] at h3
  unfold Ir.isSum at hs
  have hs := of_decide_eq_true hs
  rcases h3.2 with (h7 | h7) | h7
  · unfold Ir.hasB at h7
    simp at h7
    omega
  · omega
  · exact h7
theorem ops_ok_good {many : Int} {l : List Ir.Op} (h : Ir.Good many l) (hok : ∀ o ∈ l, OpOk o) : OpsOk l := by
  refine ⟨hok, fun o ho hs => ?_⟩
  obtain ⟨i, hi, rfl⟩ := List.getElem_of_mem ho
  have h1 := (Ir.errAt_zero.1 (h.each i hi)).1
  rw [List.getD_eq_getElem?_getD, List.getElem?_eq_getElem hi] at h1
  exact regs_b h1 hs
theorem fold_ops_ok {l : List Ir.Op} (h : OpsOk l) : ∀ o ∈ Ir.fold l, OpOk o := by
  intro o ho
  obtain ⟨i, hi, rfl⟩ := List.getElem_of_mem ho
  have hl := Ir.fold_len l
  have e := Ir.fold_at l i (by omega)
  rw [List.getD_eq_getElem?_getD, List.getElem?_eq_getElem hi] at e
  simp only [Option.getD_some] at e
  rw [e]
  exact foldOp_ok (facts_u l h i (by omega)) (h.ok _ (getD_mem (by omega)))
theorem sweepGo_mem : ∀ (n : Nat) (l : List Ir.Op), ∀ o ∈ Ir.sweepGo n l, o ∈ l
  | 0, _, _, h => h
  | n + 1, l, o, h => by
    unfold Ir.sweepGo at h
    split at h
    · rename_i i hi
      exact (List.eraseIdx_sublist l i).subset (sweepGo_mem n _ o h)
    · exact h
theorem opt_ops_ok {l : List Ir.Op} (h : OpsOk l) (v : Int) : ∀ o ∈ Ir.opt l v, OpOk o := by
  unfold Ir.opt
  split
  · exact h.ok
  · split
    · exact fold_ops_ok h
    · exact fun o ho => fold_ops_ok h o (sweepGo_mem _ _ o ho)
/-- what is wrong of a code and a level -/
def Ir.optFault (many : Int) (l : List Ir.Op) (level : Int) : Nat × Int := if (Ir.fault many l).1 ≠ 0 then Ir.fault many l else if level < 0 ∨ 2 < level then (2, -1) else (0, -1)
/-- WHAT Opt ANSWERS: a code, and an error -/
def OptIs (w : World) (ea : Nat → Addr) (pc many : Int) (l : List Ir.Op) (level : Int) (cv ev : Value) : Prop :=
  FaultIs w ea (Ir.optFault many l level) ev ∧
  (((Ir.optFault many l level).1 ≠ 0 ∧ cv = .agg #[.int .u32 0, .int .i64 0, .slice none 0 0]) ∨
   ((Ir.optFault many l level).1 = 0 ∧ ∃ A cap, cv = .agg #[.int .u32 pc, .int .i64 many, .slice A (Ir.opt l level).length cap] ∧ OpsAt w A (Ir.opt l level).length cap (Ir.opt l level) ∧ cap ≤ 9223372036854775807))
theorem OptIs.keep {w w' : World} {ea : Nat → Addr} {pc many : Int} {l : List Ir.Op} {level : Int} {cv ev : Value} (h : OptIs w ea pc many l level cv ev) (k : Keeps (fun _ => False) w w') : OptIs w' ea pc many l level cv ev := by
  obtain ⟨h1, h2⟩ := h
  refine ⟨h1.keep k, ?_⟩
  rcases h2 with h2 | ⟨h2, A, cap, h3, h4, h5⟩
  · exact .inl h2
  · exact .inr ⟨h2, A, cap, h3, h4.quiet k, h5⟩
end Go.Proofs.YtlmnmncdoiealaaGreatDoor
