import Derived.Test.YtknhfobcejpmeaaGreatDoorMem
import Derived.Deep.RegionLawGrows
import Derived.Test.YtknhfobcejpmeaaGreatDoorHrz15
import Derived.Lib.AppendZeros
import Derived.Laws.OwnMore

/- Grow -/
/- append to a row of one's own: the row stays where it was, or it is new. -/
namespace Go.Proofs.YtknhfobcejpmeaaGreatDoor
open Go.RowKit Go.Deep
set_option linter.unusedVariables false

/-- where a row lies behind an append -/
def Moved (w : World) (v v' : Value) : Prop := v'.ownBlock = v.ownBlock ∨ ∀ k, v'.ownBlock = some k → w.heap.size ≤ k

theorem ownsRow_base {w : World} {b b' : Nat} {e : TypeId} {size : Nat} {v : Value} {n : Nat} {xs : List Value} (h : w.ownsRow b e size v n xs) (hb : b' ≤ b) : w.ownsRow b' e size v n xs := by
  refine ⟨h.1, ?_⟩
  rcases h.2 with h | ⟨g, cap, cur, h1, h2, h3⟩
  · exact .inl h
  · exact .inr ⟨g, cap, cur, h1, Nat.le_trans hb h2, h3⟩

theorem run_append_mine {P : Program} (w : World) (base : Nat) (t ty e : TypeId) (i : TypeInfo) (z : Value) (size bytes : Nat) (ht : P.underlying t = some (.slice e)) (hi : P.info? e = some i) (hz : i.zero = some z)
    (hsize : i.size = size) (hby : i.bytes = bytes) (hzs : z.cells.size = size) (hsz : 0 < size)
    (v : Value) (n : Nat) (xs : List Value) (hown : w.ownsRow base e size v n xs)
    (a : Addr) (m c : Nat) (news : List Value) (hl : news.length = m * size) (hnews : ∀ j u, news[j]? = some u → w.cell? (a.add j) = some u) (h1 : ∀ u ∈ news, u.oneCell' = true)
    (h63 : n + m ≤ maxLen) (hbytes : (n + m) * bytes ≤ 140737488355328) (hbase : base ≤ w.heap.size) :
    ∃ v' w', (Builtin.append_ #[t, t] ty #[v, .slice (some a) m c]).run P w = .ok v' w' ∧ w'.ownsRow base e size v' (n + m) (xs ++ news) ∧ w.grownBy w' v.ownBlock ∧ Moved w v v' := by
  rcases hown.2 with ⟨rfl, rfl⟩ | ⟨g, cap, cur, rfl, hbg, hg, hnc, hcm, hcs, htake⟩
  · have hx : xs = [] := List.eq_nil_of_length_eq_zero (by simpa using hown.1)
    subst hx
    obtain ⟨v', w', hr, ho, hgr, _⟩ := run_append_own (P := P) w w.heap.size t ty e i z size bytes ht hi hz hsize hby hzs hsz (.slice none 0 0) 0 [] (World.ownsRow_nil _ _ _ _) a m c news hl hnews h1 h63 hbytes (Nat.le_refl _)
    exact ⟨v', w', hr, ownsRow_base ho hbase, hgr, .inr fun k hk => (ho.lt k hk).1⟩
  · obtain ⟨v', w', hr, ho, hgr, _⟩ := run_append_own (P := P) w base t ty e i z size bytes ht hi hz hsize hby hzs hsz _ n xs hown a m c news hl hnews h1 h63 hbytes hbase
    refine ⟨v', w', hr, ho, hgr, ?_⟩
    by_cases hroom : n + m ≤ cap
    · have hfit : n * i.size + news.length ≤ cur.size := by rw [hl, hcs, hsize, ← Nat.add_mul]; exact Nat.mul_le_mul_right _ hroom
      have hr2 := run_append_room (P := P) w t ty e i ht hi g n cap cur hg a m c news (by rw [hl, hsize]) hnews h1 hroom hfit
      rw [hr] at hr2
      injection hr2 with e1 e2
      exact .inl (by rw [e1]; rfl)
    · have holds : ∀ j u, xs[j]? = some u → w.cell? ((⟨g, 0, none⟩ : Addr).add j) = some u := hown.cells (g := g) rfl
      obtain ⟨v2, w2, hr2, ho2, _⟩ := run_append_arg_grows (P := P) w t ty e i z size bytes ht hi hz hsize hby hzs hsz ⟨g, 0, none⟩ n cap xs hown.1 holds a m c news hl hnews (by omega) h63 hbytes
      rw [hr] at hr2
      injection hr2 with e1 e2
      exact .inr fun k hk => (ho2.lt k (e1 ▸ hk)).1

theorem step_append_mine {P : Program} {ops : Array Oper} {o : Oper} {a : Act} {w : World} {K : Act → World → Prop} {Q : Exit → Act → World → Prop} {E : Prop}
    (hg : o.guard = none) (s x : Operand) (t : TypeId) (hop : o.op = Op.call { callee := Callee.builtin Builtin.append, args := #[s, x], argTypes := #[t, t] })
    (base : Nat) (e : TypeId) (i : TypeInfo) (z : Value) (size bytes : Nat) (h1 : P.underlying t = some (.slice e)) (h2 : P.info? e = some i) (h3 : i.zero = some z) (h4 : i.size = size) (h5 : i.bytes = bytes) (h6 : z.cells.size = size) (h7 : 0 < size)
    (v : Value) (n : Nat) (xs : List Value) (hs : a.eval s = v) (hown : w.ownsRow base e size v n xs)
    (ad : Addr) (m c : Nat) (news : List Value) (hx : a.eval x = .slice (some ad) m c) (hn : news.length = m * size) (hc : ∀ j u, news[j]? = some u → w.cell? (ad.add j) = some u) (h1c : ∀ u ∈ news, u.oneCell' = true)
    (b1 : n + m ≤ maxLen) (b2 : (n + m) * bytes ≤ 140737488355328) (hbase : base ≤ w.heap.size)
    (hK : ∀ v' w', w'.ownsRow base e size v' (n + m) (xs ++ news) → w.grownBy w' v.ownBlock → Moved w v v' → K (a.put o.dst v') w') :
    if Region.wanted o (yielded ops a.tmps) = true then Oper.wp P o a w K Q else E := by
  have hw : Region.wanted o (yielded ops a.tmps) = true := by simp [Region.wanted, hg]
  rw [if_pos hw]
  obtain ⟨v', w', hrun, r1, r2, r3⟩ := run_append_mine (P := P) w base t o.type e i z size bytes h1 h2 h3 h4 h5 h6 h7 v n xs hown ad m c news hn hc h1c b1 b2 hbase
  unfold Oper.wp
  simp [execOp, hop, resolve, invoke, builtin, hs, hx, hrun, Result.andThen]
  exact hK v' w' r1 r2 r3

theorem wpList_append_mine {P : Program} {w : World} {ops : Array Oper} {rest : List Oper} {o : Oper} {a : Act} {Q : Exit → Act → World → Prop} (hgd : o.guard = none) (s x : Operand) (t : TypeId)
    (ho : o.op = .call { callee := .builtin .append, args := #[s, x], argTypes := #[t, t] })
    (base : Nat) (e : TypeId) (i : TypeInfo) (z : Value) (size bytes : Nat) (ht : P.underlying t = some (.slice e)) (hi : P.info? e = some i) (hz : i.zero = some z)
    (hsize : i.size = size) (hby : i.bytes = bytes) (hzs : z.cells.size = size) (hsz : 0 < size)
    (v : Value) (n : Nat) (xs : List Value) (hs : a.eval s = v) (hown : w.ownsRow base e size v n xs)
    (ad : Addr) (m c : Nat) (news : List Value) (hx : a.eval x = .slice (some ad) m c) (hl : news.length = m * size) (hnews : ∀ j u, news[j]? = some u → w.cell? (ad.add j) = some u) (h1 : ∀ u ∈ news, u.oneCell' = true)
    (h63 : n + m ≤ maxLen) (hbytes : (n + m) * bytes ≤ 140737488355328) (hbase : base ≤ w.heap.size)
    (h : ∀ v' w', w'.ownsRow base e size v' (n + m) (xs ++ news) → w.grownBy w' v.ownBlock → Moved w v v' → wpList P ops Q rest (a.put o.dst v') w') : wpList P ops Q (o :: rest) a w :=
  wpList_plain hgd fun _ hK => by
    obtain ⟨v', w', hr, h2, h3, h4⟩ := run_append_mine (P := P) w base t o.type e i z size bytes ht hi hz hsize hby hzs hsz v n xs hown ad m c news hl hnews h1 h63 hbytes hbase
    unfold Oper.wp execOp
    simp only [ho, resolve, invoke, builtin, Sem.run_bind, Sem.run_pure, Result.andThen_ok, List.map_toArray, List.map_cons, List.map_nil, hs, hx, hr]
    exact hK _ _ (h v' w' h2 h3 h4)
end Go.Proofs.YtknhfobcejpmeaaGreatDoor

/- Concat -/
/- Ops appended to a row of the call's own; the walks of slices.Grow, slices.Concat over rows of ops. -/
namespace Go.Proofs.YtknhfobcejpmeaaGreatDoor
open Go.RowKit Go.Deep
set_option linter.unusedVariables false
set_option linter.unusedSimpArgs false

set_option maxRecDepth 100000 in
/-- APPEND OPS TO A ROW OF THE CALL's OWN: from wherever they lie, nil too -/
theorem wpList_append_ops {w : World} {ops : Array Oper} {rest : List Oper} {o : Oper} {a : Act} {Q : Exit → Act → World → Prop} (hgd : o.guard = none) (s x : Operand)
    (ho : o.op = .call { callee := .builtin .append, args := #[s, x], argTypes := #[23, 23] }) (B : Nat) (l1 : List Ir.Op) (v : Value) (hs : a.eval s = v) (h1 : OpsOwn w B l1 v)
    (A2 : Option Addr) (m c : Nat) (l2 : List Ir.Op) (hx : a.eval x = .slice A2 m c) (V2 : OpsAt w A2 m c l2) (hb : l1.length + m ≤ 1000000) (hbase : B ≤ w.heap.size)
    (h : ∀ v' w', OpsOwn w' B (l1 ++ l2) v' → Keeps (fun k => v.ownBlock = some k) w w' → Moved w v v' → wpList Tryz.prog ops Q rest (a.put o.dst v') w') : wpList Tryz.prog ops Q (o :: rest) a w := by
  obtain ⟨i0, hi, hz0, hz1, hz2⟩ := info_parts Tryz.info_op
  obtain ⟨A1, c1, rfl, ho1⟩ := h1
  have hl2 := V2.len
  cases A2 with
  | none =>
    have hcap : c = 0 := by
      obtain ⟨_, _, h | ⟨b, o, h, _⟩⟩ := V2
      · exact h
      · cases h
    have hm : m = 0 := by have := V2.le; omega
    subst hcap hm
    obtain rfl : l2 = [] := List.eq_nil_of_length_eq_zero hl2
    refine Lib.wpList_append_run w hgd s x _ _ ho _ _ hs hx _ _ (run_append_owned_none w B 23 o.type 100 i0 6 Tryz.underlying23 hi _ _ _ ho1) ?_
    exact h _ _ (by rw [List.append_nil]; exact ⟨A1, c1, rfl, ho1⟩) (Keeps.refl _ _) (.inl rfl)
  | some ad =>
    have hn : ∀ j u, (opsL l2)[j]? = some u → w.cell? (ad.add j) = some u := fun j u hu => by
      obtain ⟨h1, h2, h3 | ⟨b, o, hb, hbl, hc⟩⟩ := V2
      · have : l2 = [] := List.eq_nil_of_length_eq_zero (by omega)
        subst this
        simp [opsL] at hu
      · injection hb with hb
        subst hb
        have V3 : OpsAt w (some ⟨b, o, none⟩) m c l2 := ⟨h1, h2, .inr ⟨b, o, rfl, hbl, hc⟩⟩
        exact V3.cells j u hu
    refine wpList_append_mine hgd s x 23 ho B 100 i0 _ 6 56 Tryz.underlying23 hi hz0 hz1 hz2 rfl (by decide) (.slice A1 l1.length c1) l1.length (opsL l1) hs ho1 ad m c (opsL l2) hx (by rw [opsL_len, hl2]) hn (opsL_one l2) (by unfold maxLen; omega) (by omega) hbase ?_
    intro v' w' hown hgrow hmv
    obtain ⟨A', cap', rfl⟩ := owns_slice hown
    refine h _ _ ⟨A', cap', by rw [List.length_append, hl2], ?_⟩ ((Keeps.refl _ w).grown hgrow (fun k hk _ => hk)) hmv
    rw [opsL_append, List.length_append, hl2]
    exact hown
theorem owns_empty_of (w : World) (B g cap : Nat) (cur : Array Value) (hb : B ≤ g) (hg : w.heap[g]? = some (.cells cur 100 (0, 0))) (hm : cap ≤ maxLen) (hs : cur.size = cap * 6) : OpsOwn w B [] (.slice (some ⟨g, 0, none⟩) 0 cap) :=
  ⟨some ⟨g, 0, none⟩, cap, rfl, rfl, .inr ⟨g, cap, cur, rfl, hb, hg, Nat.zero_le _, hm, hs, by simp [opsL]⟩⟩
set_option maxHeartbeats 2000000 in
set_option maxRecDepth 100000 in
theorem grow_any (n : Nat) (hn : n ≤ 1000000) (w : World) :
    Calls Tryz.prog 118 #[.slice none 0 0, .int .i64 n] w fun e w' => ∃ v, e = .returned v ∧ OpsOwn w' w.heap.size [] v ∧ Keeps (fun _ => False) w w' := by
  obtain ⟨i0, hi, hz0, hz1, hz2⟩ := info_parts Tryz.info_op
  have hn0 : (0 : Int) ≤ (n : Int) := by omega
  have hn1 : (n : Int) ≤ 1000000 := by omega
  by_cases h0 : n = 0
  · subst h0
    go_enter Tryz.func118, Tryz.ntmps118
    go_wp2_with fail
    go_ret
    exact ⟨_, rfl, ⟨none, 0, rfl, World.ownsRow_nil _ _ _ _⟩, Keeps.refl _ _⟩
  · have hpos : 0 < n := by omega
    have t1 : decide (0 < n) = true := decide_eq_true (by omega)
    have t0 : decide ((n : Int) < 0) = false := decide_eq_false (by omega)
    have hbytes : n * i0.bytes ≤ 281474976710656 := by rw [hz2]; omega
    have HR := Lib.hid (Lib.run_append_nil_zeros (P := Tryz.prog) w 23 3 23 100 i0 _ .i64 .i64 Tryz.underlying23 Tryz.underlying3 hi hz0 n hpos (by rw [hz1]; decide) (by omega) hbytes)
    have HG1 := Lib.hid (grownCap_ge w n 0 100)
    have HG2 := Lib.hid (grownCap_le_maxLen w n 0 100 (by unfold maxLen; omega))
    have HZ := Lib.hid (show (Builtin.zeroCells (Value.agg #[.string ByteArray.empty, .int .i64 0, .int .i64 0, .int .i64 0, .int .u32 0, .int .i64 0]).cells n ++ Builtin.zeroCells (Value.agg #[.string ByteArray.empty, .int .i64 0, .int .i64 0, .int .i64 0, .int .u32 0, .int .i64 0]).cells (grownCap w n 0 100 - n)).size = grownCap w n 0 100 * 6 by
      have h1 : (Value.agg #[.string ByteArray.empty, .int .i64 0, .int .i64 0, .int .i64 0, .int .u32 0, .int .i64 0]).cells.size = 6 := rfl
      rw [Array.size_append, size_zeroCells, size_zeroCells, h1]
      have := grownCap_ge w n 0 100
      omega)
    generalize Builtin.zeroCells (Value.agg #[.string ByteArray.empty, .int .i64 0, .int .i64 0, .int .i64 0, .int .u32 0, .int .i64 0]).cells n ++ Builtin.zeroCells _ _ = cur at *
    generalize grownCap w n 0 100 = cap at *
    have HB := Lib.hid (show OpsOwn (w.drew.alloc (.cells cur 100)) w.heap.size [] (.slice (some ⟨w.heap.size, 0, none⟩) 0 cap) from owns_empty_of _ _ _ _ cur (Nat.le_refl _) (blk_alloc_new _ _) HG2.out HZ.out)
    have HK := Lib.hid (show Keeps (fun _ => False) w (w.drew.alloc (.cells cur 100)) from (Keeps.refl _ w).drew.alloc _)
    clear h0 hpos hbytes hi hz0 hz1 hz2
    have hcap := HG1.out
    go_enter Tryz.func118, Tryz.ntmps118
    go_wp2_with (at_builtin; go_loud (refine Lib.wpList_append_run w rfl _ _ 23 3 rfl (.slice none 0 0) (.int .i64 n) rfl rfl _ _ HR.out ?_))
    go_ret
    exact ⟨_, rfl, HB.out, HK.out⟩
theorem flatten_step (rows : List (List Ir.Op)) (i : Nat) (h : i < rows.length) : (rows.take (i + 1)).flatten = (rows.take i).flatten ++ rows.getD i [] := by
  rw [List.take_succ_eq_append_getElem h, List.flatten_append]
  have : rows.getD i [] = rows[i] := by simp [List.getD, h]
  rw [this]
  simp
theorem flatten_bound {L : Nat} : ∀ (rows : List (List Ir.Op)), (∀ i, i < rows.length → (rows.getD i []).length ≤ L) → rows.flatten.length ≤ rows.length * L
  | [], _ => by simp
  | l :: r, h => by
    have h0 : l.length ≤ L := h 0 (by simp)
    have h1 := flatten_bound r (fun i hi => h (i + 1) (by simpa using hi))
    rw [List.flatten_cons, List.length_append, List.length_cons, Nat.add_mul]
    omega
theorem flatten_take_bound {L : Nat} {rows : List (List Ir.Op)} (h : ∀ i, i < rows.length → (rows.getD i []).length ≤ L) (i : Nat) (hi : i ≤ rows.length) : (rows.take i).flatten.length ≤ i * L := by
  have := flatten_bound (L := L) (rows.take i) (fun j hj => by
    rw [List.length_take] at hj
    have e : (rows.take i).getD j [] = rows.getD j [] := by
      rw [List.getD_eq_getElem?_getD, List.getElem?_take_of_lt (by omega), List.getD_eq_getElem?_getD]
    rw [e]
    exact h j (by omega))
  rwa [List.length_take, Nat.min_eq_left hi] at this
set_option maxHeartbeats 8000000 in
set_option maxRecDepth 100000 in
theorem concat_any (A : Option Addr) (n cap : Nat) (rows : List (List Ir.Op)) (w : World) (V : RowsAt w A n cap rows) (hc : cap ≤ 9223372036854775807) (hn : n ≤ 1000) (hb : ∀ i, i < rows.length → (rows.getD i []).length ≤ 1000) :
    Calls Tryz.prog 79 #[.slice A n cap] w fun e w' => ∃ v, e = .returned v ∧ OpsOwn w' w.heap.size rows.flatten v ∧ Keeps (fun _ => False) w w' := by
  have HV := Lib.hid V
  have HL := Lib.hid V.len
  have HB := Lib.hid hb
  have hnc := V.le
  have HT := Lib.hid (fun i (hi : i ≤ n) => flatten_take_bound hb i (by rw [V.len]; exact hi))
  obtain ⟨B, hB⟩ : ∃ B, w.heap.size = B := ⟨_, rfl⟩
  rw [hB]
  have HBE := Lib.hid hB
  clear V hb hB
  go_enter Tryz.func79, Tryz.ntmps79
  go_wp2_with fail
  go_loopw [3, 11] (fun s3 s11 wr => ∃ i st : Nat, i ≤ n ∧ st ≤ 1000000 ∧ s3 = .int .i64 st ∧ s11 = .int .i64 i ∧ (rows.take i).flatten.length = st ∧ Keeps (fun _ => False) w wr) (fun _ s11 _ => n - (intOf s11).toNat)
  case atStart => exact ⟨0, 0, by omega, by omega, rfl, rfl, rfl, Keeps.refl _ _⟩
  case round =>
    obtain ⟨i, st, hi, hst, rfl, rfl, hsum, hK1⟩ := hrel
    have HS := Lib.hid hsum
    have HK1 := Lib.hid hK1
    clear hsum hK1
    by_cases hlt : i < n
    · obtain ⟨ob, oo, Ai, ci, rfl, e0, e1, e2⟩ := (HV.out.quiet HK1.out).get hlt
      have hil : i < rows.length := by rw [HL.out]; exact hlt
      have HFS := Lib.hid (flatten_step rows i hil)
      have HTB := Lib.hid (HT.out (i + 1) hlt)
      obtain ⟨l, hl⟩ : ∃ l, rows.getD i [] = l := ⟨_, rfl⟩
      rw [hl] at e0 HFS
      clear hl hil e1 e2
      have hsl : st + l.length ≤ 1000000 := by
        have := HTB.out
        rw [HFS.out, List.length_append, HS.out] at this
        omega
      have hi63 : (i : Int) < n := by omega
      have h1 : (0 : Int) ≤ (st : Int) + (l.length : Int) := by omega
      have h2 : (st : Int) + (l.length : Int) ≤ 1000000 := by omega
      have HSL := Lib.hid hsl
      have HF2 := Lib.hid (show (rows.take (i + 1)).flatten.length = st + l.length by rw [HFS.out, List.length_append, HS.out])
      obtain ⟨ll, hll⟩ : ∃ ll, l.length = ll := ⟨_, rfl⟩
      rw [hll] at e0 h1 h2 HF2 HSL
      clear hll hsl
      have t1 : decide ((st : Int) + (ll : Int) < 0) = false := decide_eq_false (by omega)
      go_wp2_with fail
      go_roundw
      case rel => exact ⟨i + 1, st + ll, by omega, HSL.out, by go_num, by go_num, HF2.out, HK1.out⟩
      case measure => simp [intOf]; omega
    · obtain rfl : i = n := by omega
      have HSF := Lib.hid (show rows.flatten.length = st by
        have := HS.out
        rwa [List.take_of_length_le (by rw [HL.out]; exact Nat.le_refl _)] at this)
      have HGR := Lib.hid (fun w => grow_any st hst w)
      clear HS
      generalize i = n at *
      generalize wr = w1 at *
      have HBS1 := Lib.hid (show B ≤ w1.heap.size by rw [← HBE.out]; exact HK1.out.size)
      go_wp2_with fail
      refine (HGR.out _).mono ?_
      rintro e w2 ⟨v0, rfl, ho2, hk2⟩
      have HO2 := Lib.hid (ho2.base HBS1.out)
      have HK2 := Lib.hid (HK1.out.trans hk2 (fun _ _ h => h))
      clear ho2 hk2
      go_wp2_with fail
      go_loopw [6, 27] (fun s6 s27 wr => ∃ i : Nat, i ≤ n ∧ s27 = .int .i64 i ∧ OpsOwn wr B (rows.take i).flatten s6 ∧ Keeps (fun _ => False) w wr) (fun _ s27 _ => n - (intOf s27).toNat)
      case atStart => exact ⟨0, by omega, rfl, HO2.out, HK2.out⟩
      case round =>
        obtain ⟨i, hi, rfl, hO, hK⟩ := hrel
        have HO := Lib.hid hO
        have HK := Lib.hid hK
        clear hO hK
        by_cases hlt : i < n
        · obtain ⟨ob, oo, Ai, ci, rfl, e0, e1, e2⟩ := (HV.out.quiet HK.out).get hlt
          have hil : i < rows.length := by rw [HL.out]; exact hlt
          have HFS := Lib.hid (flatten_step rows i hil)
          have HTB := Lib.hid (HT.out (i + 1) hlt)
          obtain ⟨l, hl⟩ : ∃ l, rows.getD i [] = l := ⟨_, rfl⟩
          rw [hl] at e0 e1 HFS
          clear hl hil
          have HE1 := Lib.hid e1
          have hi63 : (i : Int) < n := by omega
          have HSL := Lib.hid (show (rows.take i).flatten.length + l.length ≤ 1000000 by
            have := HTB.out
            rw [HFS.out, List.length_append] at this
            omega)
          have HBS := Lib.hid (show B ≤ wr.heap.size by rw [← HBE.out]; exact HK.out.size)
          clear e1 e2
          obtain ⟨A1, c1, hv1, how⟩ := HO.out
          have hlq := Lib.hid how.lt
          obtain ⟨tl, htl⟩ : ∃ tl, (rows.take i).flatten.length = tl := ⟨_, rfl⟩
          rw [htl] at hv1 HSL
          have HTL := Lib.hid htl
          subst hv1
          obtain ⟨ll, hll⟩ : ∃ ll, l.length = ll := ⟨_, rfl⟩
          rw [hll] at e0 HSL
          have HE2 := Lib.hid (show OpsAt wr Ai ll ci l by rw [← hll]; exact HE1.out)
          clear htl hll how
          go_wp2_with (at_builtin; go_loud (refine wpList_append_ops rfl _ _ rfl B (rows.take i).flatten (.slice A1 tl c1) rfl HO.out Ai ll ci l rfl HE2.out (by rw [HTL.out]; exact HSL.out) HBS.out ?c0))
          case c0 =>
            intro v' w3 hown hk3 _
            have HO3 := Lib.hid (show OpsOwn w3 B (rows.take (i + 1)).flatten v' by rw [HFS.out]; exact hown)
            have HK3 := Lib.hid (show Keeps (fun _ => False) w w3 from HK.out.trans hk3 (fun b hb h => by
              have := (hlq.out b h).1
              have := HBE.out
              omega))
            clear hown hk3
            go_wp2_with fail
            go_roundw
            case rel => exact ⟨i + 1, by omega, by go_num, HO3.out, HK3.out⟩
            case measure => simp [intOf]; omega
        · obtain rfl : i = n := by omega
          have HEE := Lib.hid (show OpsOwn wr B rows.flatten _ from by
            have := HO.out
            rwa [List.take_of_length_le (by rw [HL.out]; exact Nat.le_refl _)] at this)
          go_wp2_with fail
          go_ret
          exact ⟨_, rfl, HEE.out, HK.out⟩
end Go.Proofs.YtknhfobcejpmeaaGreatDoor

/- HostRowL -/
/- A host's results in a row of the call's own. -/
namespace Go.Proofs.YtknhfobcejpmeaaGreatDoor
open Go.RowKit Go.Deep
set_option linter.unusedVariables false
set_option linter.unusedSimpArgs false

/-- a result -/
structure HR where
  o : Ir.Op
  v : Int
  a : Int
def hr0 : HR := ⟨Ir.nop, 0, 0⟩
def hrC (p : HR) : Array Value := hresC p.o p.v p.a
def hrL (l : List HR) : List Value := l.flatMap (fun p => (hrC p).toList)
theorem hrL_len (l : List HR) : (hrL l).length = l.length * 8 := by
  induction l with
  | nil => rfl
  | cons o r ih =>
    have : hrL (o :: r) = (hrC o).toList ++ hrL r := rfl
    rw [this, List.length_append, ih, List.length_cons]
    show 8 + _ = _
    omega
theorem hrL_snoc (l : List HR) (p : HR) : hrL (l ++ [p]) = hrL l ++ (hrC p).toList := by
  unfold hrL
  rw [List.flatMap_append]
  simp
theorem hrL_get (l : List HR) : ∀ i q, i < l.length → q < 8 → (hrL l)[i * 8 + q]? = (hrC (l.getD i hr0))[q]? := by
  induction l with
  | nil => intro i q h; simp at h
  | cons o r ih =>
    intro i q h hq
    have e : hrL (o :: r) = (hrC o).toList ++ hrL r := rfl
    rw [e]
    cases i with
    | zero =>
      rw [List.getElem?_append_left (by show _ < 8; omega)]
      simp
    | succ i =>
      rw [List.getElem?_append_right (by show 8 ≤ _; omega)]
      show (hrL r)[(i + 1) * 8 + q - 8]? = _
      rw [show (i + 1) * 8 + q - 8 = i * 8 + q by omega, ih i q (by simpa using h) hq]
      rfl
theorem hrC_one (p : HR) : ∀ v ∈ (hrC p).toList, v.oneCell' = true := by
  intro v h
  simp only [hrC, hresC, List.mem_cons, List.not_mem_nil, or_false] at h
  rcases h with rfl | rfl | rfl | rfl | rfl | rfl | rfl | rfl <;> rfl
theorem Tryz.info_hres : (Tryz.prog.info? 176).map (fun i => (i.zero, i.size, i.bytes)) = some (some (.agg #[.string ByteArray.empty, .int .i64 0, .int .i64 0, .int .i64 0, .int .u32 0, .int .i64 0, .int .u32 0, .int .u32 0]), 8, 64) := by kernel_rfl
/-- a row of results of the call's own -/
def HrsOwn (w : World) (base : Nat) (l : List HR) (v : Value) : Prop := ∃ A cap, v = .slice A l.length cap ∧ w.ownsRow base 176 8 v l.length (hrL l)
theorem HrsOwn.quiet {w w' : World} {B : Nat} {l : List HR} {v : Value} (h : HrsOwn w B l v) (k : Keeps (fun _ => False) w w') : HrsOwn w' B l v := by
  obtain ⟨A, cap, rfl, ho⟩ := h
  exact ⟨A, cap, rfl, owns_keep ho k (fun _ _ h => h)⟩
theorem HrsOwn.keep {S : Nat → Prop} {w w' : World} {B : Nat} {l : List HR} {v : Value} (h : HrsOwn w B l v) (k : Keeps S w w') (hs : ∀ g, v.ownBlock = some g → ¬ S g) : HrsOwn w' B l v := by
  obtain ⟨A, cap, rfl, ho⟩ := h
  exact ⟨A, cap, rfl, owns_keep ho k hs⟩
theorem HrsOwn.nil (w : World) (B : Nat) : HrsOwn w B [] (.slice none 0 0) := ⟨none, 0, rfl, World.ownsRow_nil _ _ _ _⟩
theorem HrsOwn.low {w : World} {B : Nat} {l : List HR} {v : Value} (h : HrsOwn w B l v) : ∀ g, v.ownBlock = some g → B ≤ g ∧ g < w.heap.size := by
  obtain ⟨A, cap, rfl, _, ⟨h2, _⟩ | ⟨g2, cap', cur, h2, h3, h4, _⟩⟩ := h
  · intro g hg; rw [h2] at hg; cases hg
  · intro g hg
    rw [h2] at hg
    injection hg with hg
    subst hg
    exact ⟨h3, (Array.getElem?_eq_some_iff.1 h4).1⟩
/-- what lies at a result's place -/
theorem HrsOwn.get {w : World} {B : Nat} {l : List HR} {v : Value} (h : HrsOwn w B l v) {i : Nat} (hi : i < l.length) :
    ∃ g o cap, v = .slice (some ⟨g, o, none⟩) l.length cap ∧ ∀ q u, q < 8 → (hrC (l.getD i hr0))[q]? = some u → w.cell? ⟨g, o + i * 8 + q, none⟩ = some u := by
  obtain ⟨A, cap, rfl, _, ⟨h2, h3⟩ | ⟨g2, cap', cur, h2, h3, h4, h5, h6, h7, h8⟩⟩ := h
  · injection h2 with e1 e2 e3
    omega
  · injection h2 with e1 e2 e3
    subst e1 e3
    refine ⟨g2, 0, cap, rfl, fun q u hq hu => ?_⟩
    rw [Nat.zero_add]
    have e := hrL_get l i q hi hq
    rw [hu, ← h8, List.getElem?_take_of_lt (by omega)] at e
    unfold World.cell?
    rw [h4]
    simpa using e
set_option maxRecDepth 100000 in
/-- APPEND A RESULT TO A ROW OF THE CALL's OWN -/
theorem wpList_append_hr {w : World} {ops : Array Oper} {rest : List Oper} {o : Oper} {a : Act} {Q : Exit → Act → World → Prop} (hgd : o.guard = none) (s x : Operand)
    (ho : o.op = .call { callee := .builtin .append, args := #[s, x], argTypes := #[174, 174] }) (B : Nat) (l1 : List HR) (v : Value) (hs : a.eval s = v) (h1 : HrsOwn w B l1 v)
    (g : Nat) (p : HR) (hx : a.eval x = .slice (some ⟨g, 0, none⟩) 1 1) (V2 : ∀ j u, (hrC p).toList[j]? = some u → w.cell? ((⟨g, 0, none⟩ : Addr).add j) = some u) (hb : l1.length ≤ 1000000) (hbase : B ≤ w.heap.size)
    (h : ∀ v' w', HrsOwn w' B (l1 ++ [p]) v' → Keeps (fun k => v.ownBlock = some k) w w' → wpList Tryz.prog ops Q rest (a.put o.dst v') w') : wpList Tryz.prog ops Q (o :: rest) a w := by
  obtain ⟨i0, hi, hz0, hz1, hz2⟩ := info_parts Tryz.info_hres
  obtain ⟨A1, c1, rfl, ho1⟩ := h1
  refine wpList_append_mine hgd s x 174 ho B 176 i0 _ 8 64 Tryz.underlying174 hi hz0 hz1 hz2 rfl (by decide) (.slice A1 l1.length c1) l1.length (hrL l1) hs ho1 ⟨g, 0, none⟩ 1 1 (hrC p).toList hx rfl V2 (hrC_one p) (by unfold maxLen; omega) (by omega) hbase ?_
  intro v' w' hown hgrow hmv
  obtain ⟨A', cap', rfl⟩ := owns_slice hown
  refine h _ _ ⟨A', cap', by rw [List.length_append, List.length_singleton], ?_⟩ ((Keeps.refl _ w).grown hgrow (fun k hk _ => hk))
  rw [hrL_snoc, List.length_append, List.length_singleton]
  exact hown
namespace Ir
def hrOf (X m : Nat → Int) (o : Op) : HR := ⟨o, hv X m o, ha X o⟩
def lvOf : Option Int → Int × Bool
  | some pc => (pc, true)
  | none => (0, false)
theorem leaveTo_snoc : ∀ (l : List RRes) (c : Option Int) (r : RRes), leaveTo c (l ++ [r]) = if r.leave = true then some r.addr else leaveTo c l
  | [], _, _ => rfl
  | q :: l, c, r => leaveTo_snoc l _ r
theorem hostTrap_at {X m : Nat → Int} {W : Int → Bool} : ∀ (l : List Op) (i : Nat), i < l.length → (∀ j, j < i → (resOf X m W (l.getD j nop)).trap = false) → (resOf X m W (l.getD i nop)).trap = true → trapOf X m W l = some (l.getD i nop).at_
  | [], i, h, _, _ => absurd h (by simp)
  | o :: r, 0, _, _, ht => by
    unfold trapOf
    rw [if_pos (by simpa using ht)]
    rfl
  | o :: r, i + 1, h, hj, ht => by
    unfold trapOf
    have h0 := hj 0 (by omega)
    rw [if_neg (by simpa using h0)]
    exact hostTrap_at r i (by simpa using h) (fun j hlt => by simpa using hj (j + 1) (by omega)) (by simpa using ht)
theorem hostTrap_all {X m : Nat → Int} {W : Int → Bool} : ∀ (l : List Op), (∀ j, j < l.length → (resOf X m W (l.getD j nop)).trap = false) → trapOf X m W l = none
  | [], _ => rfl
  | o :: r, h => by
    unfold trapOf
    have h0 := h 0 (by simp)
    rw [if_neg (by simpa using h0)]
    exact hostTrap_all r (fun j hj => by simpa using h (j + 1) (by simp; omega))
/-- what a result is good for, if it is no trap -/
theorem hres_ok {X m : Nat → Int} {W : Int → Bool} {o : Op} (hi : OpIn o) (ht : (resOf X m W o).trap = false) :
    (0 < writes o → (resOf X m W o).v = hv X m o) ∧ (kn o.k = 6 → (resOf X m W o).v = hv X m o ∧ (resOf X m W o).addr = ha X o) ∧
    (leaves (kn o.k) = true → (resOf X m W o).leave = (whV o (hv X m o)).2 ∧ ((resOf X m W o).leave = true → (resOf X m W o).addr = (whV o (hv X m o)).1)) ∧ (leaves (kn o.k) = false → (resOf X m W o).leave = false) := by
  have hle := kn_le o.k
  have h0 := hi.k
  have hw0 := @writes_0 o
  rcases (show kn o.k = 1 ∨ kn o.k = 2 ∨ kn o.k = 3 ∨ kn o.k = 4 ∨ kn o.k = 5 ∨ kn o.k = 6 ∨ kn o.k = 7 ∨ kn o.k = 8 ∨ kn o.k = 9 ∨ 10 ≤ kn o.k by omega) with h | h | h | h | h | h | h | h | h | h
  · unfold resOf hv leaves; simp [h]
  · unfold resOf hv leaves; simp [h]
  · rw [hw0 (by omega)]; unfold resOf hv leaves; simp [h]
  · rw [hw0 (by omega)]; unfold resOf hv leaves; simp [h]
  · unfold resOf hv leaves at *
    simp only [h] at ht ⊢
    by_cases hr : rightC (adr (rg X o.a) o.imm) o.b.natAbs = 0
    · simp [hr]
    · simp [hr] at ht
  · rw [hw0 (by omega)]
    unfold resOf hv ha leaves at *
    simp only [h] at ht ⊢
    by_cases hr : rightC (adr (rg X o.a) o.imm) o.d = 0
    · simp [hr]
    · simp [hr] at ht
  · rw [hw0 (by omega)]; unfold resOf hv leaves whV; simp [h, bne]; rfl
  · rw [hw0 (by omega)]; unfold resOf hv leaves whV; simp [h]
  · rw [hw0 (by omega)]; unfold resOf hv leaves whV; simp [h]
  · refine ⟨fun _ => ?_, fun h6 => by omega, fun hl => ?_, fun _ => ?_⟩
    · unfold resOf hv
      rw [if_neg (by omega), if_neg (by omega), if_neg (by omega), if_neg (by omega), if_neg (by omega), if_neg (by omega), if_neg (by omega), if_neg (by omega), if_neg (by omega), if_neg (by omega), if_neg (by omega), if_neg (by omega), if_pos h]
    · exfalso
      unfold leaves at hl
      simp at hl
      omega
    · unfold resOf
      rw [if_neg (by omega), if_neg (by omega), if_neg (by omega), if_neg (by omega), if_neg (by omega), if_neg (by omega), if_neg (by omega), if_neg (by omega)]
theorem writes_in {o : Op} (hi : OpIn o) (h : 0 < writes o) : writes o < 64 := by
  have hle := kn_le o.k
  have h0 := hi.k
  rcases (show (kn o.k = 1 ∨ kn o.k = 2 ∨ kn o.k = 5 ∨ 10 ≤ kn o.k) ∨ (kn o.k = 3 ∨ kn o.k = 4 ∨ (6 ≤ kn o.k ∧ kn o.k ≤ 9)) by omega) with h1 | h1
  · rw [writes_d h1]
    exact (hi.d h1).2
  · rw [writes_0 h1] at h
    omega
theorem writes_gi {o : Op} (hi : OpIn o) : 0 ≤ writes o := by
  have hle := kn_le o.k
  have h0 := hi.k
  rcases (show (kn o.k = 1 ∨ kn o.k = 2 ∨ kn o.k = 5 ∨ 10 ≤ kn o.k) ∨ (kn o.k = 3 ∨ kn o.k = 4 ∨ (6 ≤ kn o.k ∧ kn o.k ≤ 9)) by omega) with h1 | h1
  · rw [writes_d h1]
    have := (hi.d h1).1
    omega
  · rw [writes_0 h1]
    omega
/-- a machine behind a result: a store waits, a register is written, nothing -/
theorem hostOne_store (c : Mc) {o : Op} {r : RRes} (h : kn o.k = 6) : hostOne c (o, r) = { c with ws := c.ws ++ [⟨r.addr, o.d, r.v⟩] } := by
  unfold hostOne applyX
  simp only [h]
  rw [writes_0 (by omega)]
  rfl
theorem hostOne_set (c : Mc) {o : Op} {r : RRes} (h : kn o.k ≠ 6) (hw : 0 < writes o) : hostOne c (o, r) = { c with X := setX c.X (writes o) r.v } := by
  unfold hostOne applyX
  simp only [if_pos hw, if_neg h]
theorem hostOne_none (c : Mc) {o : Op} {r : RRes} (h : kn o.k ≠ 6) (hw : writes o = 0) : hostOne c (o, r) = c := by
  unfold hostOne applyX
  simp only [hw, if_neg h]
  rfl
end Ir
end Go.Proofs.YtknhfobcejpmeaaGreatDoor
