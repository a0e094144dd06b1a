import Derived.Test.YtknhfobcejpmeaaGreatDoorPez06
import Derived.Test.YtknhfobcejpmeaaGreatDoorPez10
import Derived.Test.YtknhfobcejpmeaaGreatDoorMem
import Derived.Deep.RegionLawGrows
import Derived.Lib.AppendZeros
import Derived.Laws.OwnMore

/- OwnRows -/
/- Rows of ops of the call's own, rows within a row; the walk of the law's OwnRows. -/
namespace Go.Proofs.YtknhfobcejpmeaaGreatDoor
open Go.RowKit Go.Deep
set_option linter.unusedVariables false
set_option linter.unusedSimpArgs false

theorem Tryz.info_rowO : (Tryz.prog.info? 23).map (fun i => (i.zero, i.size, i.bytes)) = some (some (.slice none 0 0), 1, 24) := by kernel_rfl
theorem OpsOwn.keepS {S : Nat → Prop} {w w' : World} {B : Nat} {l : List Ir.Op} {v : Value} (h : OpsOwn w B l v) (k : Keeps S w w') (hs : ∀ g, v.ownBlock = some g → ¬ S g) : OpsOwn w' B l v := by
  obtain ⟨A, cap, rfl, ho⟩ := h
  exact ⟨A, cap, rfl, owns_keep ho k hs⟩
theorem OpsOwn.base {w : World} {B B' : Nat} {l : List Ir.Op} {v : Value} (h : OpsOwn w B l v) (hb : B' ≤ B) : OpsOwn w B' l v := by
  obtain ⟨A, cap, rfl, h1, h2⟩ := h
  refine ⟨A, cap, rfl, h1, ?_⟩
  rcases h2 with h | ⟨g, cap, cur, h1, h2, h3⟩
  · exact .inl h
  · exact .inr ⟨g, cap, cur, h1, Nat.le_trans hb h2, h3⟩
/-- a row's block bears its element's type -/
theorem owns_typed {w : World} {B : Nat} {e : TypeId} {size : Nat} {v : Value} {n : Nat} {xs : List Value} (h : w.ownsRow B e size v n xs) {g : Nat} (hg : v.ownBlock = some g) : ∃ cur, w.heap[g]? = some (.cells cur e (0, 0)) := by
  obtain ⟨_, ⟨h4, _⟩ | ⟨g2, cap, cur, h4, h5, h6, _⟩⟩ := h
  · rw [h4] at hg; cases hg
  · rw [h4] at hg
    injection hg with hg
    subst hg
    exact ⟨cur, h6⟩
theorem owns_apart {w : World} {B C : Nat} {e f : TypeId} {s1 s2 : Nat} {v u : Value} {n m : Nat} {xs ys : List Value} (h : w.ownsRow B e s1 v n xs) (k : w.ownsRow C f s2 u m ys) (hne : e ≠ f) : ∀ g, v.ownBlock = some g → ¬ u.ownBlock = some g := fun g h1 h2 => by
  obtain ⟨c1, e1⟩ := owns_typed h h1
  obtain ⟨c2, e2⟩ := owns_typed k h2
  rw [e1] at e2
  injection e2 with e2
  injection e2 with _ e2
  exact hne e2
/-- rows of ops, each of the call's own -/
def RowsOwn (w : World) (B : Nat) (v : Value) (rows : List (List Ir.Op)) : Prop :=
  ∃ vs : List Value, vs.length = rows.length ∧ w.ownsRow B 23 1 v rows.length vs ∧ ∀ j, j < rows.length → OpsOwn w B (rows.getD j []) (vs.getD j (.slice none 0 0))
theorem RowsOwn.quiet {w w' : World} {B : Nat} {v : Value} {rows : List (List Ir.Op)} (h : RowsOwn w B v rows) (k : Keeps (fun _ => False) w w') : RowsOwn w' B v rows := by
  obtain ⟨vs, h1, h2, h3⟩ := h
  exact ⟨vs, h1, owns_keep h2 k (fun _ _ h => h), fun j hj => (h3 j hj).keepS k (fun _ _ h => h)⟩
theorem RowsOwn.nil (w : World) (B : Nat) : RowsOwn w B (.slice none 0 0) [] := ⟨[], rfl, World.ownsRow_nil _ _ _ _, fun j hj => absurd hj (by simp)⟩
theorem op_ne_row : 100 ≠ 23 := by decide
/-- one more -/
theorem RowsOwn.step {w2 w3 : World} {B : Nat} {v v' u : Value} {rows : List (List Ir.Op)} {l : List Ir.Op} {vs : List Value} (h1 : vs.length = rows.length) (h2 : w2.ownsRow B 23 1 v rows.length vs) (h3 : ∀ j, j < rows.length → OpsOwn w2 B (rows.getD j []) (vs.getD j (.slice none 0 0)))
    (hg : OpsOwn w2 B l u) (hk : Keeps (fun k => v.ownBlock = some k) w2 w3) (hown : w3.ownsRow B 23 1 v' (rows.length + 1) (vs ++ [u])) : RowsOwn w3 B v' (rows ++ [l]) := by
  have hkeep : ∀ l u, OpsOwn w2 B l u → OpsOwn w3 B l u := fun l u h => by
    obtain ⟨A, cap, rfl, ho⟩ := h
    exact ⟨A, cap, rfl, owns_keep ho hk (owns_apart ho h2 op_ne_row)⟩
  refine ⟨vs ++ [u], by simp [h1], ?_, fun j hj => ?_⟩
  · rw [List.length_append, List.length_singleton]
    exact hown
  · rw [List.length_append, List.length_singleton] at hj
    by_cases e : j < rows.length
    · have a1 : (vs ++ [u]).getD j (.slice none 0 0) = vs.getD j (.slice none 0 0) := by simp [List.getD_eq_getElem?_getD, List.getElem?_append_left (show j < vs.length by omega)]
      have a2 : (rows ++ [l]).getD j [] = rows.getD j [] := by simp [List.getD_eq_getElem?_getD, List.getElem?_append_left e]
      rw [a1, a2]
      exact hkeep _ _ (h3 j e)
    · obtain rfl : j = rows.length := by omega
      have a1 : (vs ++ [u]).getD rows.length (.slice none 0 0) = u := by rw [← h1]; simp [List.getD_eq_getElem?_getD]
      have a2 : (rows ++ [l]).getD rows.length [] = l := by simp [List.getD_eq_getElem?_getD]
      rw [a1, a2]
      exact hkeep _ _ hg
theorem owns_cell {w : World} {B : Nat} {e : TypeId} {v : Value} {n : Nat} {xs : List Value} (h : w.ownsRow B e 1 v n xs) {g : Nat} (hg : v.ownBlock = some g) {i : Nat} (hi : i < n) (d : Value) : w.cell? ⟨g, i, none⟩ = some (xs.getD i d) := by
  have hl := h.1
  have := h.cells hg i (xs.getD i d) (by rw [List.getD_eq_getElem?_getD, List.getElem?_eq_getElem (by omega)]; rfl)
  rw [Addr.add_lit] at this
  simpa using this
theorem RowsOwn.rows {w : World} {B : Nat} {v : Value} {rows : List (List Ir.Op)} (h : RowsOwn w B v rows) : ∃ A cap, v = .slice A rows.length cap ∧ cap ≤ 9223372036854775807 ∧ RowsAt w A rows.length cap rows := by
  obtain ⟨vs, h1, h2, h3⟩ := h
  obtain ⟨A, cap, rfl⟩ := owns_slice h2
  refine ⟨A, cap, rfl, owns_cap h2, ?_⟩
  have h2' := h2
  obtain ⟨hlen, ⟨h4, h5⟩ | ⟨g, cap', cur, h4, h5, h6, h7, h8, h9, h10⟩⟩ := h2
  · injection h4 with e1 e2 e3
    exact ⟨rfl, by omega, .inl e3⟩
  · injection h4 with e1 e2 e3
    subst e1 e3
    refine ⟨rfl, h7, .inr ⟨g, 0, rfl, (Array.getElem?_eq_some_iff.1 h6).1, fun i hi => ?_⟩⟩
    obtain ⟨Ai, ci, e1, e2⟩ := (h3 i hi)
    have hc := owns_cell h2' (g := g) rfl hi (.slice none 0 0)
    rw [e1] at hc e2
    rw [Nat.zero_add]
    exact ⟨Ai, ci, hc, OpsAt.of_owns e2 rfl, owns_cap e2⟩
set_option maxHeartbeats 4000000 in
set_option maxRecDepth 100000 in
theorem ownRows_any (A : Option Addr) (n cap : Nat) (rows : List (List Ir.Op)) (w : World) (V : RowsAt w A n cap rows) (hc : cap ≤ 9223372036854775807) (hn : n < 1000000) (hr : ∀ i, i < n → (rows.getD i []).length < 1000000) :
    Calls Tryz.prog 20 #[.slice A n cap] w fun e w' => ∃ v, e = .returned v ∧ RowsOwn w' w.heap.size v rows ∧ Keeps (fun _ => False) w w' := by
  obtain ⟨i0, hinf, hz0, hz1, hz2⟩ := info_parts Tryz.info_rowO
  have HV := Lib.hid V
  have HL := Lib.hid V.len
  have HR := Lib.hid hr
  have hnc := V.le
  have HK0 := Lib.hid (Keeps.refl (fun _ => False) w)
  obtain ⟨B, hB⟩ : ∃ B, w.heap.size = B := ⟨_, rfl⟩
  rw [hB]
  have HBE := Lib.hid hB
  clear V hB hr
  go_enter Tryz.func20, Tryz.ntmps20
  go_wp2_with fail
  go_loopw [3, 4] (fun s1 s2 wr => ∃ i : Nat, i ≤ n ∧ s2 = .int .i64 i ∧ RowsOwn wr B s1 (rows.take i) ∧ Keeps (fun _ => False) w wr) (fun _ s2 _ => n - (intOf s2).toNat)
  case atStart => exact ⟨0, by omega, rfl, by rw [List.take_zero]; exact RowsOwn.nil _ _, HK0.out⟩
  case round =>
    obtain ⟨i, hi, rfl, hE, hK⟩ := hrel
    have HE := Lib.hid hE
    have HK := Lib.hid hK
    clear hE hK
    by_cases hlt : i < n
    · obtain ⟨ob, oo, Ai, ci, rfl, e0, e1, e2⟩ := (HV.out.quiet HK.out).get hlt
      have hil : i < rows.length := by rw [HL.out]; exact hlt
      have HTS := Lib.hid (show rows.take (i + 1) = rows.take i ++ [rows.getD i []] by
        rw [List.take_succ_eq_append_getElem hil]
        simp [List.getD, hil])
      have hlen : (rows.take i).length = i := by rw [List.length_take, Nat.min_eq_left (Nat.le_of_lt hil)]
      have hri := HR.out i hlt
      obtain ⟨l, hl⟩ : ∃ l, rows.getD i [] = l := ⟨_, rfl⟩
      rw [hl] at e0 e1 HTS hri
      clear hl
      have HOO := Lib.hid (fun w V => ownOps_any Ai l.length ci l w V hri)
      have HE1 := Lib.hid e1
      have hi63 : (i : Int) < n := by omega
      clear e1 e2
      go_wp2_with fail
      refine (HOO.out _ HE1.out).mono ?_
      rintro e w2 ⟨u, rfl, hu, hk2⟩
      obtain ⟨Au, cu, hue, _⟩ := id hu
      obtain ⟨ul, hul⟩ : ∃ n, l.length = n := ⟨_, rfl⟩
      rw [hul] at hue
      subst hue
      have HUL := Lib.hid hul
      clear hul
      have HU := Lib.hid (hu.base (B' := B) (by rw [← HBE.out]; exact HK.out.size))
      have HK2 := Lib.hid (HK.out.trans hk2 (fun _ _ h => h))
      have HE2 := Lib.hid (HE.out.quiet hk2)
      clear hu hk2 e0 HE
      obtain ⟨vs, hg1, hg2, hg3⟩ := HE2.out
      rw [hlen] at hg2
      obtain ⟨A1, cap1, rfl⟩ := owns_slice hg2
      have HG3 := Lib.hid (show ∀ j, j < (rows.take i).length → OpsOwn (w2.alloc (.cells #[.slice Au ul cu] 23)) B ((rows.take i).getD j []) (vs.getD j (.slice none 0 0)) from fun j hj => (hg3 j hj).keepS ((Keeps.refl (fun _ => False) w2).alloc _) (fun _ _ h => h))
      have HG1 := Lib.hid hg1
      have HQ := Lib.hid (show (w2.alloc (.cells #[.slice Au ul cu] 23)).ownsRow B 23 1 (.slice A1 i cap1) i vs from hg2.alloc _)
      have HUU := Lib.hid (show OpsOwn (w2.alloc (.cells #[.slice Au ul cu] 23)) B l (.slice Au ul cu) from HU.out.keepS ((Keeps.refl (fun _ => False) w2).alloc _) (fun _ _ h => h))
      have HCN := Lib.hid (fun j x hj => cells_new w2 [.slice Au ul cu] 23 j x hj)
      have HONE : Hid (∀ x ∈ [Value.slice Au ul cu], x.oneCell' = true) := Lib.hid (by
        intro x hx
        simp only [List.mem_cons, List.not_mem_nil, or_false] at hx
        rw [hx]
        rfl)
      have HBS := Lib.hid (show B ≤ (w2.alloc (.cells #[.slice Au ul cu] 23)).heap.size by
        rw [nblk_alloc]
        have := HK2.out.size
        have := HBE.out
        omega)
      have hmx : i + 1 ≤ maxLen := by unfold maxLen; omega
      have HLL := Lib.hid (show vs.length = i * 1 by rw [hg1, hlen, Nat.mul_one])
      have HLN := Lib.hid hlen
      clear hg1 hg2 hg3 HE2 hlen
      go_wp2_with (at_builtin; go_loud (refine wpList_append_own _ rfl _ _ 33 rfl B 23 i0 _ 1 24 Tryz.underlying33 hinf hz0 hz1 hz2 rfl (by decide) (.slice A1 i cap1) i vs rfl HQ.out ⟨w2.heap.size, 0, none⟩ 1 1 [.slice Au ul cu] rfl rfl HCN.out HONE.out hmx (by omega) HBS.out ?c0))
      case c0 =>
        intro v' w3 hown hgrow hnil
        obtain ⟨A2, cap2, rfl⟩ := owns_slice hown
        have hk23 : Keeps (fun k => (Value.slice A1 i cap1).ownBlock = some k) (w2.alloc (.cells #[.slice Au ul cu] 23)) w3 := (Keeps.refl _ _).grown hgrow (fun g hg _ => hg)
        have HE3 := Lib.hid (show RowsOwn w3 B (.slice A2 (i + 1) cap2) (rows.take (i + 1)) from by
          rw [HTS.out]
          refine RowsOwn.step HG1.out (v := .slice A1 i cap1) ?_ HG3.out HUU.out hk23 ?_
          · rw [HLN.out]; exact HQ.out
          · rw [HLN.out]; exact hown)
        have hlq := HQ.out.lt
        have HK3 := Lib.hid (show Keeps (fun _ => False) w w3 from (HK2.out.alloc (.cells #[.slice Au ul cu] 23)).trans hk23 (fun b hb h => by
          have := (hlq b h).1
          have := HBE.out
          omega))
        clear hown hgrow hnil hk23 hlq
        go_wp2_with fail
        go_roundw
        case rel => exact ⟨i + 1, by omega, by go_num, HE3.out, HK3.out⟩
        case measure => simp [intOf]; omega
    · obtain rfl : i = n := by omega
      have HEE := Lib.hid (show RowsOwn wr B _ rows from by
        have := HE.out
        rwa [List.take_of_length_le (by rw [HL.out]; exact Nat.le_refl _)] at this)
      go_wp2_with fail
      go_ret
      exact ⟨_, rfl, HEE.out, HK.out⟩
end Go.Proofs.YtknhfobcejpmeaaGreatDoor

/- Grow -/
/- append to a row of one's own: the row stays where it was, or it is new. -/
namespace Go.Proofs.YtknhfobcejpmeaaGreatDoor
open Go.RowKit Go.Deep
set_option linter.unusedVariables false

/-- where a row lies behind an append -/
def Moved (w : World) (v v' : Value) : Prop := v'.ownBlock = v.ownBlock ∨ ∀ k, v'.ownBlock = some k → w.heap.size ≤ k

theorem ownsRow_base {w : World} {b b' : Nat} {e : TypeId} {size : Nat} {v : Value} {n : Nat} {xs : List Value} (h : w.ownsRow b e size v n xs) (hb : b' ≤ b) : w.ownsRow b' e size v n xs := by
  refine ⟨h.1, ?_⟩
  rcases h.2 with h | ⟨g, cap, cur, h1, h2, h3⟩
  · exact .inl h
  · exact .inr ⟨g, cap, cur, h1, Nat.le_trans hb h2, h3⟩

theorem run_append_mine {P : Program} (w : World) (base : Nat) (t ty e : TypeId) (i : TypeInfo) (z : Value) (size bytes : Nat) (ht : P.underlying t = some (.slice e)) (hi : P.info? e = some i) (hz : i.zero = some z)
    (hsize : i.size = size) (hby : i.bytes = bytes) (hzs : z.cells.size = size) (hsz : 0 < size)
    (v : Value) (n : Nat) (xs : List Value) (hown : w.ownsRow base e size v n xs)
    (a : Addr) (m c : Nat) (news : List Value) (hl : news.length = m * size) (hnews : ∀ j u, news[j]? = some u → w.cell? (a.add j) = some u) (h1 : ∀ u ∈ news, u.oneCell' = true)
    (h63 : n + m ≤ maxLen) (hbytes : (n + m) * bytes ≤ 140737488355328) (hbase : base ≤ w.heap.size) :
    ∃ v' w', (Builtin.append_ #[t, t] ty #[v, .slice (some a) m c]).run P w = .ok v' w' ∧ w'.ownsRow base e size v' (n + m) (xs ++ news) ∧ w.grownBy w' v.ownBlock ∧ Moved w v v' := by
  rcases hown.2 with ⟨rfl, rfl⟩ | ⟨g, cap, cur, rfl, hbg, hg, hnc, hcm, hcs, htake⟩
  · have hx : xs = [] := List.eq_nil_of_length_eq_zero (by simpa using hown.1)
    subst hx
    obtain ⟨v', w', hr, ho, hgr, _⟩ := run_append_own (P := P) w w.heap.size t ty e i z size bytes ht hi hz hsize hby hzs hsz (.slice none 0 0) 0 [] (World.ownsRow_nil _ _ _ _) a m c news hl hnews h1 h63 hbytes (Nat.le_refl _)
    exact ⟨v', w', hr, ownsRow_base ho hbase, hgr, .inr fun k hk => (ho.lt k hk).1⟩
  · obtain ⟨v', w', hr, ho, hgr, _⟩ := run_append_own (P := P) w base t ty e i z size bytes ht hi hz hsize hby hzs hsz _ n xs hown a m c news hl hnews h1 h63 hbytes hbase
    refine ⟨v', w', hr, ho, hgr, ?_⟩
    by_cases hroom : n + m ≤ cap
    · have hfit : n * i.size + news.length ≤ cur.size := by rw [hl, hcs, hsize, ← Nat.add_mul]; exact Nat.mul_le_mul_right _ hroom
      have hr2 := run_append_room (P := P) w t ty e i ht hi g n cap cur hg a m c news (by rw [hl, hsize]) hnews h1 hroom hfit
      rw [hr] at hr2
      injection hr2 with e1 e2
      exact .inl (by rw [e1]; rfl)
    · have holds : ∀ j u, xs[j]? = some u → w.cell? ((⟨g, 0, none⟩ : Addr).add j) = some u := hown.cells (g := g) rfl
      obtain ⟨v2, w2, hr2, ho2, _⟩ := run_append_arg_grows (P := P) w t ty e i z size bytes ht hi hz hsize hby hzs hsz ⟨g, 0, none⟩ n cap xs hown.1 holds a m c news hl hnews (by omega) h63 hbytes
      rw [hr] at hr2
      injection hr2 with e1 e2
      exact .inr fun k hk => (ho2.lt k (e1 ▸ hk)).1

theorem step_append_mine {P : Program} {ops : Array Oper} {o : Oper} {a : Act} {w : World} {K : Act → World → Prop} {Q : Exit → Act → World → Prop} {E : Prop}
    (hg : o.guard = none) (s x : Operand) (t : TypeId) (hop : o.op = Op.call { callee := Callee.builtin Builtin.append, args := #[s, x], argTypes := #[t, t] })
    (base : Nat) (e : TypeId) (i : TypeInfo) (z : Value) (size bytes : Nat) (h1 : P.underlying t = some (.slice e)) (h2 : P.info? e = some i) (h3 : i.zero = some z) (h4 : i.size = size) (h5 : i.bytes = bytes) (h6 : z.cells.size = size) (h7 : 0 < size)
    (v : Value) (n : Nat) (xs : List Value) (hs : a.eval s = v) (hown : w.ownsRow base e size v n xs)
    (ad : Addr) (m c : Nat) (news : List Value) (hx : a.eval x = .slice (some ad) m c) (hn : news.length = m * size) (hc : ∀ j u, news[j]? = some u → w.cell? (ad.add j) = some u) (h1c : ∀ u ∈ news, u.oneCell' = true)
    (b1 : n + m ≤ maxLen) (b2 : (n + m) * bytes ≤ 140737488355328) (hbase : base ≤ w.heap.size)
    (hK : ∀ v' w', w'.ownsRow base e size v' (n + m) (xs ++ news) → w.grownBy w' v.ownBlock → Moved w v v' → K (a.put o.dst v') w') :
    if Region.wanted o (yielded ops a.tmps) = true then Oper.wp P o a w K Q else E := by
  have hw : Region.wanted o (yielded ops a.tmps) = true := by simp [Region.wanted, hg]
  rw [if_pos hw]
  obtain ⟨v', w', hrun, r1, r2, r3⟩ := run_append_mine (P := P) w base t o.type e i z size bytes h1 h2 h3 h4 h5 h6 h7 v n xs hown ad m c news hn hc h1c b1 b2 hbase
  unfold Oper.wp
  simp [execOp, hop, resolve, invoke, builtin, hs, hx, hrun, Result.andThen]
  exact hK v' w' r1 r2 r3

theorem wpList_append_mine {P : Program} {w : World} {ops : Array Oper} {rest : List Oper} {o : Oper} {a : Act} {Q : Exit → Act → World → Prop} (hgd : o.guard = none) (s x : Operand) (t : TypeId)
    (ho : o.op = .call { callee := .builtin .append, args := #[s, x], argTypes := #[t, t] })
    (base : Nat) (e : TypeId) (i : TypeInfo) (z : Value) (size bytes : Nat) (ht : P.underlying t = some (.slice e)) (hi : P.info? e = some i) (hz : i.zero = some z)
    (hsize : i.size = size) (hby : i.bytes = bytes) (hzs : z.cells.size = size) (hsz : 0 < size)
    (v : Value) (n : Nat) (xs : List Value) (hs : a.eval s = v) (hown : w.ownsRow base e size v n xs)
    (ad : Addr) (m c : Nat) (news : List Value) (hx : a.eval x = .slice (some ad) m c) (hl : news.length = m * size) (hnews : ∀ j u, news[j]? = some u → w.cell? (ad.add j) = some u) (h1 : ∀ u ∈ news, u.oneCell' = true)
    (h63 : n + m ≤ maxLen) (hbytes : (n + m) * bytes ≤ 140737488355328) (hbase : base ≤ w.heap.size)
    (h : ∀ v' w', w'.ownsRow base e size v' (n + m) (xs ++ news) → w.grownBy w' v.ownBlock → Moved w v v' → wpList P ops Q rest (a.put o.dst v') w') : wpList P ops Q (o :: rest) a w :=
  wpList_plain hgd fun _ hK => by
    obtain ⟨v', w', hr, h2, h3, h4⟩ := run_append_mine (P := P) w base t o.type e i z size bytes ht hi hz hsize hby hzs hsz v n xs hown ad m c news hl hnews h1 h63 hbytes hbase
    unfold Oper.wp execOp
    simp only [ho, resolve, invoke, builtin, Sem.run_bind, Sem.run_pure, Result.andThen_ok, List.map_toArray, List.map_cons, List.map_nil, hs, hx, hr]
    exact hK _ _ (h v' w' h2 h3 h4)
end Go.Proofs.YtknhfobcejpmeaaGreatDoor

/- Concat -/
/- Ops appended to a row of the call's own; the walks of slices.Grow, slices.Concat over rows of ops. -/
namespace Go.Proofs.YtknhfobcejpmeaaGreatDoor
open Go.RowKit Go.Deep
set_option linter.unusedVariables false
set_option linter.unusedSimpArgs false

set_option maxRecDepth 100000 in
/-- APPEND OPS TO A ROW OF THE CALL's OWN: from wherever they lie, nil too -/
theorem wpList_append_ops {w : World} {ops : Array Oper} {rest : List Oper} {o : Oper} {a : Act} {Q : Exit → Act → World → Prop} (hgd : o.guard = none) (s x : Operand)
    (ho : o.op = .call { callee := .builtin .append, args := #[s, x], argTypes := #[23, 23] }) (B : Nat) (l1 : List Ir.Op) (v : Value) (hs : a.eval s = v) (h1 : OpsOwn w B l1 v)
    (A2 : Option Addr) (m c : Nat) (l2 : List Ir.Op) (hx : a.eval x = .slice A2 m c) (V2 : OpsAt w A2 m c l2) (hb : l1.length + m ≤ 1000000) (hbase : B ≤ w.heap.size)
    (h : ∀ v' w', OpsOwn w' B (l1 ++ l2) v' → Keeps (fun k => v.ownBlock = some k) w w' → Moved w v v' → wpList Tryz.prog ops Q rest (a.put o.dst v') w') : wpList Tryz.prog ops Q (o :: rest) a w := by
  obtain ⟨i0, hi, hz0, hz1, hz2⟩ := info_parts Tryz.info_op
  obtain ⟨A1, c1, rfl, ho1⟩ := h1
  have hl2 := V2.len
  cases A2 with
  | none =>
    have hcap : c = 0 := by
      obtain ⟨_, _, h | ⟨b, o, h, _⟩⟩ := V2
      · exact h
      · cases h
    have hm : m = 0 := by have := V2.le; omega
    subst hcap hm
    obtain rfl : l2 = [] := List.eq_nil_of_length_eq_zero hl2
    refine Lib.wpList_append_run w hgd s x _ _ ho _ _ hs hx _ _ (run_append_owned_none w B 23 o.type 100 i0 6 Tryz.underlying23 hi _ _ _ ho1) ?_
    exact h _ _ (by rw [List.append_nil]; exact ⟨A1, c1, rfl, ho1⟩) (Keeps.refl _ _) (.inl rfl)
  | some ad =>
    have hn : ∀ j u, (opsL l2)[j]? = some u → w.cell? (ad.add j) = some u := fun j u hu => by
      obtain ⟨h1, h2, h3 | ⟨b, o, hb, hbl, hc⟩⟩ := V2
      · have : l2 = [] := List.eq_nil_of_length_eq_zero (by omega)
        subst this
        simp [opsL] at hu
      · injection hb with hb
        subst hb
        have V3 : OpsAt w (some ⟨b, o, none⟩) m c l2 := ⟨h1, h2, .inr ⟨b, o, rfl, hbl, hc⟩⟩
        exact V3.cells j u hu
    refine wpList_append_mine hgd s x 23 ho B 100 i0 _ 6 56 Tryz.underlying23 hi hz0 hz1 hz2 rfl (by decide) (.slice A1 l1.length c1) l1.length (opsL l1) hs ho1 ad m c (opsL l2) hx (by rw [opsL_len, hl2]) hn (opsL_one l2) (by unfold maxLen; omega) (by omega) hbase ?_
    intro v' w' hown hgrow hmv
    obtain ⟨A', cap', rfl⟩ := owns_slice hown
    refine h _ _ ⟨A', cap', by rw [List.length_append, hl2], ?_⟩ ((Keeps.refl _ w).grown hgrow (fun k hk _ => hk)) hmv
    rw [opsL_append, List.length_append, hl2]
    exact hown
theorem owns_empty_of (w : World) (B g cap : Nat) (cur : Array Value) (hb : B ≤ g) (hg : w.heap[g]? = some (.cells cur 100 (0, 0))) (hm : cap ≤ maxLen) (hs : cur.size = cap * 6) : OpsOwn w B [] (.slice (some ⟨g, 0, none⟩) 0 cap) :=
  ⟨some ⟨g, 0, none⟩, cap, rfl, rfl, .inr ⟨g, cap, cur, rfl, hb, hg, Nat.zero_le _, hm, hs, by simp [opsL]⟩⟩
set_option maxHeartbeats 2000000 in
set_option maxRecDepth 100000 in
theorem grow_any (n : Nat) (hn : n ≤ 1000000) (w : World) :
    Calls Tryz.prog 118 #[.slice none 0 0, .int .i64 n] w fun e w' => ∃ v, e = .returned v ∧ OpsOwn w' w.heap.size [] v ∧ Keeps (fun _ => False) w w' := by
  obtain ⟨i0, hi, hz0, hz1, hz2⟩ := info_parts Tryz.info_op
  have hn0 : (0 : Int) ≤ (n : Int) := by omega
  have hn1 : (n : Int) ≤ 1000000 := by omega
  by_cases h0 : n = 0
  · subst h0
    go_enter Tryz.func118, Tryz.ntmps118
    go_wp2_with fail
    go_ret
    exact ⟨_, rfl, ⟨none, 0, rfl, World.ownsRow_nil _ _ _ _⟩, Keeps.refl _ _⟩
  · have hpos : 0 < n := by omega
    have t1 : decide (0 < n) = true := decide_eq_true (by omega)
    have t0 : decide ((n : Int) < 0) = false := decide_eq_false (by omega)
    have hbytes : n * i0.bytes ≤ 281474976710656 := by rw [hz2]; omega
    have HR := Lib.hid (Lib.run_append_nil_zeros (P := Tryz.prog) w 23 3 23 100 i0 _ .i64 .i64 Tryz.underlying23 Tryz.underlying3 hi hz0 n hpos (by rw [hz1]; decide) (by omega) hbytes)
    have HG1 := Lib.hid (grownCap_ge w n 0 100)
    have HG2 := Lib.hid (grownCap_le_maxLen w n 0 100 (by unfold maxLen; omega))
    have HZ := Lib.hid (show (Builtin.zeroCells (Value.agg #[.string ByteArray.empty, .int .i64 0, .int .i64 0, .int .i64 0, .int .u32 0, .int .i64 0]).cells n ++ Builtin.zeroCells (Value.agg #[.string ByteArray.empty, .int .i64 0, .int .i64 0, .int .i64 0, .int .u32 0, .int .i64 0]).cells (grownCap w n 0 100 - n)).size = grownCap w n 0 100 * 6 by
      have h1 : (Value.agg #[.string ByteArray.empty, .int .i64 0, .int .i64 0, .int .i64 0, .int .u32 0, .int .i64 0]).cells.size = 6 := rfl
      rw [Array.size_append, size_zeroCells, size_zeroCells, h1]
      have := grownCap_ge w n 0 100
      omega)
    generalize Builtin.zeroCells (Value.agg #[.string ByteArray.empty, .int .i64 0, .int .i64 0, .int .i64 0, .int .u32 0, .int .i64 0]).cells n ++ Builtin.zeroCells _ _ = cur at *
    generalize grownCap w n 0 100 = cap at *
    have HB := Lib.hid (show OpsOwn (w.drew.alloc (.cells cur 100)) w.heap.size [] (.slice (some ⟨w.heap.size, 0, none⟩) 0 cap) from owns_empty_of _ _ _ _ cur (Nat.le_refl _) (blk_alloc_new _ _) HG2.out HZ.out)
    have HK := Lib.hid (show Keeps (fun _ => False) w (w.drew.alloc (.cells cur 100)) from (Keeps.refl _ w).drew.alloc _)
    clear h0 hpos hbytes hi hz0 hz1 hz2
    have hcap := HG1.out
    go_enter Tryz.func118, Tryz.ntmps118
    go_wp2_with (at_builtin; go_loud (refine Lib.wpList_append_run w rfl _ _ 23 3 rfl (.slice none 0 0) (.int .i64 n) rfl rfl _ _ HR.out ?_))
    go_ret
    exact ⟨_, rfl, HB.out, HK.out⟩
theorem flatten_step (rows : List (List Ir.Op)) (i : Nat) (h : i < rows.length) : (rows.take (i + 1)).flatten = (rows.take i).flatten ++ rows.getD i [] := by
  rw [List.take_succ_eq_append_getElem h, List.flatten_append]
  have : rows.getD i [] = rows[i] := by simp [List.getD, h]
  rw [this]
  simp
theorem flatten_bound {L : Nat} : ∀ (rows : List (List Ir.Op)), (∀ i, i < rows.length → (rows.getD i []).length ≤ L) → rows.flatten.length ≤ rows.length * L
  | [], _ => by simp
  | l :: r, h => by
    have h0 : l.length ≤ L := h 0 (by simp)
    have h1 := flatten_bound r (fun i hi => h (i + 1) (by simpa using hi))
    rw [List.flatten_cons, List.length_append, List.length_cons, Nat.add_mul]
    omega
theorem flatten_take_bound {L : Nat} {rows : List (List Ir.Op)} (h : ∀ i, i < rows.length → (rows.getD i []).length ≤ L) (i : Nat) (hi : i ≤ rows.length) : (rows.take i).flatten.length ≤ i * L := by
  have := flatten_bound (L := L) (rows.take i) (fun j hj => by
    rw [List.length_take] at hj
    have e : (rows.take i).getD j [] = rows.getD j [] := by
      rw [List.getD_eq_getElem?_getD, List.getElem?_take_of_lt (by omega), List.getD_eq_getElem?_getD]
    rw [e]
    exact h j (by omega))
  rwa [List.length_take, Nat.min_eq_left hi] at this
set_option maxHeartbeats 8000000 in
set_option maxRecDepth 100000 in
theorem concat_any (A : Option Addr) (n cap : Nat) (rows : List (List Ir.Op)) (w : World) (V : RowsAt w A n cap rows) (hc : cap ≤ 9223372036854775807) (hn : n ≤ 1000) (hb : ∀ i, i < rows.length → (rows.getD i []).length ≤ 1000) :
    Calls Tryz.prog 79 #[.slice A n cap] w fun e w' => ∃ v, e = .returned v ∧ OpsOwn w' w.heap.size rows.flatten v ∧ Keeps (fun _ => False) w w' := by
  have HV := Lib.hid V
  have HL := Lib.hid V.len
  have HB := Lib.hid hb
  have hnc := V.le
  have HT := Lib.hid (fun i (hi : i ≤ n) => flatten_take_bound hb i (by rw [V.len]; exact hi))
  obtain ⟨B, hB⟩ : ∃ B, w.heap.size = B := ⟨_, rfl⟩
  rw [hB]
  have HBE := Lib.hid hB
  clear V hb hB
  go_enter Tryz.func79, Tryz.ntmps79
  go_wp2_with fail
  go_loopw [3, 11] (fun s3 s11 wr => ∃ i st : Nat, i ≤ n ∧ st ≤ 1000000 ∧ s3 = .int .i64 st ∧ s11 = .int .i64 i ∧ (rows.take i).flatten.length = st ∧ Keeps (fun _ => False) w wr) (fun _ s11 _ => n - (intOf s11).toNat)
  case atStart => exact ⟨0, 0, by omega, by omega, rfl, rfl, rfl, Keeps.refl _ _⟩
  case round =>
    obtain ⟨i, st, hi, hst, rfl, rfl, hsum, hK1⟩ := hrel
    have HS := Lib.hid hsum
    have HK1 := Lib.hid hK1
    clear hsum hK1
    by_cases hlt : i < n
    · obtain ⟨ob, oo, Ai, ci, rfl, e0, e1, e2⟩ := (HV.out.quiet HK1.out).get hlt
      have hil : i < rows.length := by rw [HL.out]; exact hlt
      have HFS := Lib.hid (flatten_step rows i hil)
      have HTB := Lib.hid (HT.out (i + 1) hlt)
      obtain ⟨l, hl⟩ : ∃ l, rows.getD i [] = l := ⟨_, rfl⟩
      rw [hl] at e0 HFS
      clear hl hil e1 e2
      have hsl : st + l.length ≤ 1000000 := by
        have := HTB.out
        rw [HFS.out, List.length_append, HS.out] at this
        omega
      have hi63 : (i : Int) < n := by omega
      have h1 : (0 : Int) ≤ (st : Int) + (l.length : Int) := by omega
      have h2 : (st : Int) + (l.length : Int) ≤ 1000000 := by omega
      have HSL := Lib.hid hsl
      have HF2 := Lib.hid (show (rows.take (i + 1)).flatten.length = st + l.length by rw [HFS.out, List.length_append, HS.out])
      obtain ⟨ll, hll⟩ : ∃ ll, l.length = ll := ⟨_, rfl⟩
      rw [hll] at e0 h1 h2 HF2 HSL
      clear hll hsl
      have t1 : decide ((st : Int) + (ll : Int) < 0) = false := decide_eq_false (by omega)
      go_wp2_with fail
      go_roundw
      case rel => exact ⟨i + 1, st + ll, by omega, HSL.out, by go_num, by go_num, HF2.out, HK1.out⟩
      case measure => simp [intOf]; omega
    · obtain rfl : i = n := by omega
      have HSF := Lib.hid (show rows.flatten.length = st by
        have := HS.out
        rwa [List.take_of_length_le (by rw [HL.out]; exact Nat.le_refl _)] at this)
      have HGR := Lib.hid (fun w => grow_any st hst w)
      clear HS
      generalize i = n at *
      generalize wr = w1 at *
      have HBS1 := Lib.hid (show B ≤ w1.heap.size by rw [← HBE.out]; exact HK1.out.size)
      go_wp2_with fail
      refine (HGR.out _).mono ?_
      rintro e w2 ⟨v0, rfl, ho2, hk2⟩
      have HO2 := Lib.hid (ho2.base HBS1.out)
      have HK2 := Lib.hid (HK1.out.trans hk2 (fun _ _ h => h))
      clear ho2 hk2
      go_wp2_with fail
      go_loopw [6, 27] (fun s6 s27 wr => ∃ i : Nat, i ≤ n ∧ s27 = .int .i64 i ∧ OpsOwn wr B (rows.take i).flatten s6 ∧ Keeps (fun _ => False) w wr) (fun _ s27 _ => n - (intOf s27).toNat)
      case atStart => exact ⟨0, by omega, rfl, HO2.out, HK2.out⟩
      case round =>
        obtain ⟨i, hi, rfl, hO, hK⟩ := hrel
        have HO := Lib.hid hO
        have HK := Lib.hid hK
        clear hO hK
        by_cases hlt : i < n
        · obtain ⟨ob, oo, Ai, ci, rfl, e0, e1, e2⟩ := (HV.out.quiet HK.out).get hlt
          have hil : i < rows.length := by rw [HL.out]; exact hlt
          have HFS := Lib.hid (flatten_step rows i hil)
          have HTB := Lib.hid (HT.out (i + 1) hlt)
          obtain ⟨l, hl⟩ : ∃ l, rows.getD i [] = l := ⟨_, rfl⟩
          rw [hl] at e0 e1 HFS
          clear hl hil
          have HE1 := Lib.hid e1
          have hi63 : (i : Int) < n := by omega
          have HSL := Lib.hid (show (rows.take i).flatten.length + l.length ≤ 1000000 by
            have := HTB.out
            rw [HFS.out, List.length_append] at this
            omega)
          have HBS := Lib.hid (show B ≤ wr.heap.size by rw [← HBE.out]; exact HK.out.size)
          clear e1 e2
          obtain ⟨A1, c1, hv1, how⟩ := HO.out
          have hlq := Lib.hid how.lt
          obtain ⟨tl, htl⟩ : ∃ tl, (rows.take i).flatten.length = tl := ⟨_, rfl⟩
          rw [htl] at hv1 HSL
          have HTL := Lib.hid htl
          subst hv1
          obtain ⟨ll, hll⟩ : ∃ ll, l.length = ll := ⟨_, rfl⟩
          rw [hll] at e0 HSL
          have HE2 := Lib.hid (show OpsAt wr Ai ll ci l by rw [← hll]; exact HE1.out)
          clear htl hll how
          go_wp2_with (at_builtin; go_loud (refine wpList_append_ops rfl _ _ rfl B (rows.take i).flatten (.slice A1 tl c1) rfl HO.out Ai ll ci l rfl HE2.out (by rw [HTL.out]; exact HSL.out) HBS.out ?c0))
          case c0 =>
            intro v' w3 hown hk3 _
            have HO3 := Lib.hid (show OpsOwn w3 B (rows.take (i + 1)).flatten v' by rw [HFS.out]; exact hown)
            have HK3 := Lib.hid (show Keeps (fun _ => False) w w3 from HK.out.trans hk3 (fun b hb h => by
              have := (hlq.out b h).1
              have := HBE.out
              omega))
            clear hown hk3
            go_wp2_with fail
            go_roundw
            case rel => exact ⟨i + 1, by omega, by go_num, HO3.out, HK3.out⟩
            case measure => simp [intOf]; omega
        · obtain rfl : i = n := by omega
          have HEE := Lib.hid (show OpsOwn wr B rows.flatten _ from by
            have := HO.out
            rwa [List.take_of_length_le (by rw [HL.out]; exact Nat.le_refl _)] at this)
          go_wp2_with fail
          go_ret
          exact ⟨_, rfl, HEE.out, HK.out⟩
end Go.Proofs.YtknhfobcejpmeaaGreatDoor
