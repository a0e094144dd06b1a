
/- The walk of slices.Delete on a row of ops of the call's own, one op taken out. -/
import Derived.Test.YtaflchcoddgdbaaDoorFoldL
import Derived.Deep.RegionHeld3
import Derived.Laws.CopyRow
namespace Go.Proofs.YtaflchcoddgdbaaDoor
open Go.RowKit Go.Deep
set_option linter.unusedVariables false
set_option linter.unusedSimpArgs false

/-- 'append' in place, at one operation -/
theorem wp_append_in {P : Program} (w : World) {o : Oper} {a : Act} {K : Act → World → Prop} {Q : Exit → Act → World → Prop} (s x : Operand) (t e : TypeId) (i : TypeInfo) (size : Nat)
    (hop : o.op = Op.call { callee := Callee.builtin Builtin.append, args := #[s, x], argTypes := #[t, t] }) (ht : P.underlying t = some (.slice e)) (hi : P.info? e = some i) (hsz : i.size = size)
    (g n cap : Nat) (cur : Array Value) (hg : w.heap[g]? = some (.cells cur e (0, 0))) (ad : Addr) (m c : Nat) (news : List Value) (hs : a.eval s = .slice (some ⟨g, 0, none⟩) n cap) (hx : a.eval x = .slice (some ad) m c)
    (hl : news.length = m * size) (hnews : ∀ j u, news[j]? = some u → w.cell? (ad.add j) = some u) (h1 : ∀ u ∈ news, u.oneCell' = true) (hroom : n + m ≤ cap) (hfit : n * size + news.length ≤ cur.size)
    (h : K (a.put o.dst (.slice (some ⟨g, 0, none⟩) (n + m) cap)) (w.setRow g (cur.toList.take (n * size) ++ news ++ cur.toList.drop (n * size + news.length)).toArray)) : Oper.wp P o a w K Q := by
  subst hsz
  have hrun := run_append_room (P := P) w t o.type e i ht hi g n cap cur hg ad m c news hl hnews h1 hroom hfit
  unfold Oper.wp
  simp [execOp, hop, resolve, invoke, builtin, hs, hx, hrun, Result.andThen]
  rw [List.append_assoc] at h
  exact h
theorem run_clear_op (w : World) (ty : TypeId) (g o c : Nat) (cur : Array Value) (hg : w.heap[g]? = some (.cells cur 60 (0, 0))) (hfit : o + 6 ≤ cur.size) :
    (Builtin.clear_ #[22] ty #[.slice (some ⟨g, o, none⟩) 1 c]).run Tryd.prog w = .ok (.tuple #[]) (w.setRow g (cur.toList.take o ++ (opC ⟨ByteArray.empty, 0, 0, 0, 0, 0⟩).toList ++ cur.toList.drop (o + 6)).toArray) := by
  have hz : ∀ w, (zeroValue 60).run Tryd.prog w = .ok (.agg (opC ⟨ByteArray.empty, 0, 0, 0, 0, 0⟩)) w := fun w => by kernel_rfl
  have hc : (Builtin.zeroCells (Value.agg (opC ⟨ByteArray.empty, 0, 0, 0, 0, 0⟩)).cells 1).toList = (opC ⟨ByteArray.empty, 0, 0, 0, 0, 0⟩).toList := by kernel_rfl
  have hst := run_storeCells_at Tryd.prog g o 60 (opC ⟨ByteArray.empty, 0, 0, 0, 0, 0⟩).toList 0 cur w hg (by exact hfit) (by decide +kernel)
  simp only [Nat.add_zero] at hst
  simp [Builtin.clear_, run_underlying Tryd.underlying22, hz, hc, hst]
  rfl
theorem opsL_append (a b : List Ir.Op) : opsL (a ++ b) = opsL a ++ opsL b := by unfold opsL; rw [List.flatMap_append]
theorem opsL_take (l : List Ir.Op) (i : Nat) (hi : i ≤ l.length) : (opsL l).take (i * 6) = opsL (l.take i) := by
  have h := opsL_append (l.take i) (l.drop i)
  rw [List.take_append_drop] at h
  rw [h, List.take_append_of_le_length (by rw [opsL_len, List.length_take]; omega)]
  exact List.take_of_length_le (by rw [opsL_len, List.length_take]; omega)
theorem opsL_drop (l : List Ir.Op) (i : Nat) (hi : i ≤ l.length) : (opsL l).drop (i * 6) = opsL (l.drop i) := by
  have h := opsL_append (l.take i) (l.drop i)
  rw [List.take_append_drop] at h
  have e : (opsL (l.take i)).length = i * 6 := by rw [opsL_len, List.length_take]; omega
  rw [h, ← e, List.drop_left]
set_option maxHeartbeats 4000000 in
set_option maxRecDepth 100000 in
theorem delete_any (base g n cap i : Nat) (l : List Ir.Op) (w : World) (h : w.ownsRow base 60 6 (.slice (some ⟨g, 0, none⟩) n cap) n (opsL l)) (hl : l.length = n) (hi : i < n) (hn : n < 1000000) :
    Calls Tryd.prog 86 #[.slice (some ⟨g, 0, none⟩) n cap, .int .i64 i, .int .i64 ((i + 1 : Nat) : Int)] w fun e w' => e = .returned (.slice (some ⟨g, 0, none⟩) (n - 1) cap) ∧ w'.ownsRow base 60 6 (.slice (some ⟨g, 0, none⟩) (n - 1) cap) (n - 1) (opsL (l.eraseIdx i)) ∧ Keeps (· = g) w w' := by
  obtain ⟨i0, hinf, hz0, hz1, hz2⟩ := info_parts Tryd.info_op
  obtain ⟨hlen, ⟨h0, _⟩ | ⟨g', cap', cur, h2, h3, h4, h5, h6, h7, h8⟩⟩ := h
  · cases h0
  injection h2 with e1 e2 e3
  injection e1 with e1
  injection e1 with e1
  subst e1 e3
  clear e2
  obtain ⟨j, hj⟩ : ∃ j, j = i + 1 := ⟨_, rfl⟩
  obtain ⟨m, hm⟩ : ∃ m, m + 1 = n := ⟨n - 1, by omega⟩
  rw [← hj, show n - 1 = m by omega]
  have hij : i < j := by omega
  have hjn : j ≤ n := by omega
  have hmn : m < n := by omega
  have hnc : n ≤ cap := h5
  have hjc : j ≤ cap := by omega
  have hic : i ≤ cap := by omega
  have hne : ((i : Int) == (j : Int)) = false := by
    rw [beq_eq_false_iff_ne]
    omega
  have HX := Lib.hid h4
  have HN := Lib.hid (show ∀ q u, (opsL (l.drop j))[q]? = some u → w.cell? ((⟨g, j * 6, none⟩ : Addr).add q) = some u from fun q u hq => by
    have hql : q < (opsL (l.drop j)).length := (List.getElem?_eq_some_iff.1 hq).1
    rw [opsL_len, List.length_drop, hl] at hql
    rw [← opsL_drop l j (by omega), List.getElem?_drop, ← h8, List.getElem?_take_of_lt (by omega)] at hq
    rw [Addr.add_lit]
    simp only [World.cell?, h4]
    simpa using hq)
  have hfit : i * 6 + (opsL (l.drop j)).length ≤ cur.size := by rw [opsL_len, List.length_drop, hl, h7]; omega
  have hdl : (opsL (l.drop j)).length = (n - j) * 6 := by rw [opsL_len, List.length_drop, hl]
  have hmj : i + (n - j) = m := by omega
  obtain ⟨cur1, hc1⟩ : ∃ c, c = (cur.toList.take (i * 6) ++ opsL (l.drop j) ++ cur.toList.drop (i * 6 + (opsL (l.drop j)).length)).toArray := ⟨_, rfl⟩
  have hs1 : cur1.size = cap * 6 := by
    rw [hc1]
    simp only [List.size_toArray, List.length_append, List.length_take, List.length_drop, Array.length_toList, hdl]
    omega
  have ht1 : cur1.toList.take (m * 6) = opsL (l.eraseIdx i) := by
    have e1 : cur.toList.take (i * 6) = opsL (l.take i) := by
      rw [← opsL_take l i (by omega), ← h8, List.take_take, Nat.min_eq_left (by omega)]
    have e2 : l.eraseIdx i = l.take i ++ l.drop j := by rw [hj]; exact List.eraseIdx_eq_take_drop_succ l i
    have e3 : (opsL (l.take i) ++ opsL (l.drop j)).length = m * 6 := by
      rw [List.length_append, opsL_len, hdl, List.length_take]
      omega
    rw [hc1, e1, e2, opsL_append, ← e3, List.take_left]
  have H1 := Lib.hid (show (w.drew.setRow g cur1).heap[g]? = some (.cells cur1 60 (0, 0)) from setRow_heap w.drew g cur _ _ _ h4)
  have K1 := Lib.hid (show Keeps (· = g) w (w.drew.setRow g cur1) from ((Keeps.refl (· = g) w).drew).setRow (fun _ => rfl) cur1)
  have HC1 := Lib.hid hc1
  have HS1 := Lib.hid hs1
  have HT1 := Lib.hid ht1
  have HFT := Lib.hid hfit
  have HDL := Lib.hid hdl
  have HMJ := Lib.hid hmj
  have HH := Lib.hid (And.intro h3 h6)
  have HJ := Lib.hid hj
  have HM := Lib.hid hm
  clear hc1 hs1 ht1 hj hm hlen h8 h7 h4 h3 h6 hfit hdl hl hmj
  by_cases hcj : cap = j
  · obtain rfl : n = j := by omega
    subst hcj
    have hmi : m = i := by have := HMJ.out; omega
    subst hmi
    have hcc : cur1 = cur := by
      have e : opsL (l.drop cap) = [] := List.eq_nil_of_length_eq_zero (HDL.out.trans (by simp))
      rw [HC1.out, e]
      simp
    have HH1 := Lib.hid (show w.drew.heap[g]? = some (.cells cur1 60 (0, 0)) by rw [hcc]; exact HX.out)
    have HK1 := Lib.hid (show Keeps (· = g) w w.drew from (Keeps.refl (· = g) w).drew)
    clear hcc
    go_enter Tryd.func86, Tryd.ntmps86
    go_upto_region 5 with fail
    go_region_held3 (fun _ => True) (trivial)
      (fail)
    have h1 := HH1.out
    have k1 := HK1.out
    clear HH1 HK1 H1 K1
    generalize w.drew = w1 at *
    have hcl := fun ty => run_clear_op w1 ty g (m * 6) (cap - m) cur1 h1 (by rw [HS1.out]; omega)
    have h2 := setRow_heap w1 g cur1 (cur1.toList.take (m * 6) ++ (opC ⟨ByteArray.empty, 0, 0, 0, 0, 0⟩).toList ++ cur1.toList.drop (m * 6 + 6)).toArray _ _ h1
    have k2 : Keeps (· = g) w (w1.setRow g (cur1.toList.take (m * 6) ++ (opC ⟨ByteArray.empty, 0, 0, 0, 0, 0⟩).toList ++ cur1.toList.drop (m * 6 + 6)).toArray) := k1.setRow (fun _ => rfl) _
    obtain ⟨cur2, hc2⟩ : ∃ c, c = (cur1.toList.take (m * 6) ++ (opC ⟨ByteArray.empty, 0, 0, 0, 0, 0⟩).toList ++ cur1.toList.drop (m * 6 + 6)).toArray := ⟨_, rfl⟩
    rw [← hc2] at h2 k2
    simp only [← hc2] at hcl
    have HC2 := Lib.hid hc2
    have H2 := Lib.hid h2
    have K2 := Lib.hid k2
    clear h1 k1 hc2 h2 k2
    have HMN := HM.out
    have hml : m ≤ cap := by omega
    have hnm : cap - m = 1 := by omega
    rw [hnm] at hcl
    clear HMN
    go_wp2_with fail
    go_ret
    refine ⟨rfl, ⟨?_, .inr ⟨g, cap, cur2, rfl, HH.out.1, H2.out, by omega, HH.out.2, ?_, ?_⟩⟩, K2.out⟩
    · rw [← HT1.out, List.length_take, Array.length_toList, HS1.out]
      omega
    · rw [HC2.out]
      simp only [List.size_toArray, List.length_append, List.length_take, List.length_drop, Array.length_toList, HS1.out]
      show min (m * 6) (cap * 6) + 6 + _ = _
      omega
    · rw [← HT1.out, HC2.out]
      simp only [List.append_assoc]
      rw [List.take_append_of_le_length (by rw [List.length_take, Array.length_toList, HS1.out]; omega), List.take_take, Nat.min_self]
  · go_enter Tryd.func86, Tryd.ntmps86
    go_upto_region 5 with fail
    go_region_held3 (fun _ => True) (trivial)
      (refine wp_append_in _ _ _ 22 60 i0 6 rfl Tryd.underlying22 hinf hz1 g i cap cur HX.out ⟨g, j * 6, none⟩ (n - j) _ (opsL (l.drop j)) rfl rfl HDL.out HN.out (opsL_one _) (by omega) HFT.out ?_)
    rw [← HC1.out, HMJ.out]
    have h1 := H1.out
    have k1 := K1.out
    clear H1 K1
    generalize w.drew.setRow g cur1 = w1 at *
    have hcl := fun ty => run_clear_op w1 ty g (m * 6) (cap - m) cur1 h1 (by rw [HS1.out]; omega)
    have h2 := setRow_heap w1 g cur1 (cur1.toList.take (m * 6) ++ (opC ⟨ByteArray.empty, 0, 0, 0, 0, 0⟩).toList ++ cur1.toList.drop (m * 6 + 6)).toArray _ _ h1
    have k2 : Keeps (· = g) w (w1.setRow g (cur1.toList.take (m * 6) ++ (opC ⟨ByteArray.empty, 0, 0, 0, 0, 0⟩).toList ++ cur1.toList.drop (m * 6 + 6)).toArray) := k1.setRow (fun _ => rfl) _
    obtain ⟨cur2, hc2⟩ : ∃ c, c = (cur1.toList.take (m * 6) ++ (opC ⟨ByteArray.empty, 0, 0, 0, 0, 0⟩).toList ++ cur1.toList.drop (m * 6 + 6)).toArray := ⟨_, rfl⟩
    rw [← hc2] at h2 k2
    simp only [← hc2] at hcl
    have HC2 := Lib.hid hc2
    have H2 := Lib.hid h2
    have K2 := Lib.hid k2
    clear h1 k1 hc2 h2 k2
    have HMN := HM.out
    have hml : m ≤ n := by omega
    have hmc : m ≤ cap := by omega
    have hnm : n - m = 1 := by omega
    clear HMN
    go_wp2_with fail
    go_ret
    refine ⟨rfl, ⟨?_, .inr ⟨g, cap, cur2, rfl, HH.out.1, H2.out, by omega, HH.out.2, ?_, ?_⟩⟩, K2.out⟩
    · rw [← HT1.out, List.length_take, Array.length_toList, HS1.out]
      omega
    · rw [HC2.out]
      simp only [List.size_toArray, List.length_append, List.length_take, List.length_drop, Array.length_toList, HS1.out]
      show min (m * 6) (cap * 6) + 6 + _ = _
      omega
    · rw [← HT1.out, HC2.out]
      simp only [List.append_assoc]
      rw [List.take_append_of_le_length (by rw [List.length_take, Array.length_toList, HS1.out]; omega), List.take_take, Nat.min_self]
end Go.Proofs.YtaflchcoddgdbaaDoor
