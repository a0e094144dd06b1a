import Derived.Test.YtlmnmncdoiealaaDoorKdz10
import Derived.Test.YtlmnmncdoiealaaDoorGrow
import Derived.Lib.AppendZeros
import Derived.Laws.OwnMore
import Derived.Test.YtlmnmncdoiealaaDoorKdz19
import Derived.Test.YtlmnmncdoiealaaDoorKdz00
import Derived.Test.YtlmnmncdoiealaaDoorKdz14

/- Concat -/
/- Ops appended to a row of the call's own; the walks of slices.Grow, slices.Concat over rows of ops. -/
namespace Go.Proofs.YtlmnmncdoiealaaDoor
open Go.RowKit Go.Deep
set_option linter.unusedVariables false
set_option linter.unusedSimpArgs false

set_option maxRecDepth 100000 in
/-- APPEND OPS TO A ROW OF THE CALL's OWN: from wherever they lie, nil too -/
theorem wpList_append_ops {w : World} {ops : Array Oper} {rest : List Oper} {o : Oper} {a : Act} {Q : Exit → Act → World → Prop} (hgd : o.guard = none) (s x : Operand)
    (ho : o.op = .call { callee := .builtin .append, args := #[s, x], argTypes := #[36, 36] }) (B : Nat) (l1 : List Ir.Op) (v : Value) (hs : a.eval s = v) (h1 : OpsOwn w B l1 v)
    (A2 : Option Addr) (m c : Nat) (l2 : List Ir.Op) (hx : a.eval x = .slice A2 m c) (V2 : OpsAt w A2 m c l2) (hb : l1.length + m ≤ 1000000) (hbase : B ≤ w.heap.size)
    (h : ∀ v' w', OpsOwn w' B (l1 ++ l2) v' → Keeps (fun k => v.ownBlock = some k) w w' → Moved w v v' → wpList Tryd.prog ops Q rest (a.put o.dst v') w') : wpList Tryd.prog ops Q (o :: rest) a w := by
  obtain ⟨i0, hi, hz0, hz1, hz2⟩ := info_parts Tryd.info_op
  obtain ⟨A1, c1, rfl, ho1⟩ := h1
  have hl2 := V2.len
  cases A2 with
  | none =>
    have hcap : c = 0 := by
      obtain ⟨_, _, h | ⟨b, o, h, _⟩⟩ := V2
      · exact h
      · cases h
    have hm : m = 0 := by have := V2.le; omega
    subst hcap hm
    obtain rfl : l2 = [] := List.eq_nil_of_length_eq_zero hl2
    refine Lib.wpList_append_run w hgd s x _ _ ho _ _ hs hx _ _ (run_append_owned_none w B 36 o.type 35 i0 6 Tryd.underlying36 hi _ _ _ ho1) ?_
    exact h _ _ (by rw [List.append_nil]; exact ⟨A1, c1, rfl, ho1⟩) (Keeps.refl _ _) (.inl rfl)
  | some ad =>
    have hn : ∀ j u, (opsL l2)[j]? = some u → w.cell? (ad.add j) = some u := fun j u hu => by
      obtain ⟨h1, h2, h3 | ⟨b, o, hb, hbl, hc⟩⟩ := V2
      · have : l2 = [] := List.eq_nil_of_length_eq_zero (by omega)
        subst this
        simp [opsL] at hu
      · injection hb with hb
        subst hb
        have V3 : OpsAt w (some ⟨b, o, none⟩) m c l2 := ⟨h1, h2, .inr ⟨b, o, rfl, hbl, hc⟩⟩
        exact V3.cells j u hu
    refine wpList_append_mine hgd s x 36 ho B 35 i0 _ 6 56 Tryd.underlying36 hi hz0 hz1 hz2 rfl (by decide) (.slice A1 l1.length c1) l1.length (opsL l1) hs ho1 ad m c (opsL l2) hx (by rw [opsL_len, hl2]) hn (opsL_one l2) (by unfold maxLen; omega) (by omega) hbase ?_
    intro v' w' hown hgrow hmv
    obtain ⟨A', cap', rfl⟩ := owns_slice hown
    refine h _ _ ⟨A', cap', by rw [List.length_append, hl2], ?_⟩ ((Keeps.refl _ w).grown hgrow (fun k hk _ => hk)) hmv
    rw [opsL_append, List.length_append, hl2]
    exact hown
theorem owns_empty_of (w : World) (B g cap : Nat) (cur : Array Value) (hb : B ≤ g) (hg : w.heap[g]? = some (.cells cur 35 (0, 0))) (hm : cap ≤ maxLen) (hs : cur.size = cap * 6) : OpsOwn w B [] (.slice (some ⟨g, 0, none⟩) 0 cap) :=
  ⟨some ⟨g, 0, none⟩, cap, rfl, rfl, .inr ⟨g, cap, cur, rfl, hb, hg, Nat.zero_le _, hm, hs, by simp [opsL]⟩⟩
set_option maxHeartbeats 2000000 in
set_option maxRecDepth 100000 in
theorem grow_any (n : Nat) (hn : n ≤ 1000000) (w : World) :
    Calls Tryd.prog 74 #[.slice none 0 0, .int .i64 n] w fun e w' => ∃ v, e = .returned v ∧ OpsOwn w' w.heap.size [] v ∧ Keeps (fun _ => False) w w' := by
  obtain ⟨i0, hi, hz0, hz1, hz2⟩ := info_parts Tryd.info_op
  have hn0 : (0 : Int) ≤ (n : Int) := by omega
  have hn1 : (n : Int) ≤ 1000000 := by omega
  by_cases h0 : n = 0
  · subst h0
    go_enter Tryd.func74, Tryd.ntmps74
    go_wp2_with fail
    go_ret
    exact ⟨_, rfl, ⟨none, 0, rfl, World.ownsRow_nil _ _ _ _⟩, Keeps.refl _ _⟩
  · have hpos : 0 < n := by omega
    have t1 : decide (0 < n) = true := decide_eq_true (by omega)
    have t0 : decide ((n : Int) < 0) = false := decide_eq_false (by omega)
    have hbytes : n * i0.bytes ≤ 281474976710656 := by rw [hz2]; omega
    have HR := Lib.hid (Lib.run_append_nil_zeros (P := Tryd.prog) w 36 3 36 35 i0 _ .i64 .i64 Tryd.underlying36 Tryd.underlying3 hi hz0 n hpos (by rw [hz1]; decide) (by omega) hbytes)
    have HG1 := Lib.hid (grownCap_ge w n 0 35)
    have HG2 := Lib.hid (grownCap_le_maxLen w n 0 35 (by unfold maxLen; omega))
    have HZ := Lib.hid (show (Builtin.zeroCells (Value.agg #[.string ByteArray.empty, .int .i64 0, .int .i64 0, .int .i64 0, .int .u32 0, .int .i64 0]).cells n ++ Builtin.zeroCells (Value.agg #[.string ByteArray.empty, .int .i64 0, .int .i64 0, .int .i64 0, .int .u32 0, .int .i64 0]).cells (grownCap w n 0 35 - n)).size = grownCap w n 0 35 * 6 by
      have h1 : (Value.agg #[.string ByteArray.empty, .int .i64 0, .int .i64 0, .int .i64 0, .int .u32 0, .int .i64 0]).cells.size = 6 := rfl
      rw [Array.size_append, size_zeroCells, size_zeroCells, h1]
      have := grownCap_ge w n 0 35
      omega)
    generalize Builtin.zeroCells (Value.agg #[.string ByteArray.empty, .int .i64 0, .int .i64 0, .int .i64 0, .int .u32 0, .int .i64 0]).cells n ++ Builtin.zeroCells _ _ = cur at *
    generalize grownCap w n 0 35 = cap at *
    have HB := Lib.hid (show OpsOwn (w.drew.alloc (.cells cur 35)) w.heap.size [] (.slice (some ⟨w.heap.size, 0, none⟩) 0 cap) from owns_empty_of _ _ _ _ cur (Nat.le_refl _) (blk_alloc_new _ _) HG2.out HZ.out)
    have HK := Lib.hid (show Keeps (fun _ => False) w (w.drew.alloc (.cells cur 35)) from (Keeps.refl _ w).drew.alloc _)
    clear h0 hpos hbytes hi hz0 hz1 hz2
    have hcap := HG1.out
    go_enter Tryd.func74, Tryd.ntmps74
    go_wp2_with (at_builtin; go_loud (refine Lib.wpList_append_run w rfl _ _ 36 3 rfl (.slice none 0 0) (.int .i64 n) rfl rfl _ _ HR.out ?_))
    go_ret
    exact ⟨_, rfl, HB.out, HK.out⟩
theorem flatten_step (rows : List (List Ir.Op)) (i : Nat) (h : i < rows.length) : (rows.take (i + 1)).flatten = (rows.take i).flatten ++ rows.getD i [] := by
  rw [List.take_succ_eq_append_getElem h, List.flatten_append]
  have : rows.getD i [] = rows[i] := by simp [List.getD, h]
  rw [this]
  simp
theorem flatten_bound {L : Nat} : ∀ (rows : List (List Ir.Op)), (∀ i, i < rows.length → (rows.getD i []).length ≤ L) → rows.flatten.length ≤ rows.length * L
  | [], _ => by simp
  | l :: r, h => by
    have h0 : l.length ≤ L := h 0 (by simp)
    have h1 := flatten_bound r (fun i hi => h (i + 1) (by simpa using hi))
    rw [List.flatten_cons, List.length_append, List.length_cons, Nat.add_mul]
    omega
theorem flatten_take_bound {L : Nat} {rows : List (List Ir.Op)} (h : ∀ i, i < rows.length → (rows.getD i []).length ≤ L) (i : Nat) (hi : i ≤ rows.length) : (rows.take i).flatten.length ≤ i * L := by
  have := flatten_bound (L := L) (rows.take i) (fun j hj => by
    rw [List.length_take] at hj
    have e : (rows.take i).getD j [] = rows.getD j [] := by
      rw [List.getD_eq_getElem?_getD, List.getElem?_take_of_lt (by omega), List.getD_eq_getElem?_getD]
    rw [e]
    exact h j (by omega))
  rwa [List.length_take, Nat.min_eq_left hi] at this
set_option maxHeartbeats 8000000 in
set_option maxRecDepth 100000 in
theorem concat_any (A : Option Addr) (n cap : Nat) (rows : List (List Ir.Op)) (w : World) (V : RowsAt w A n cap rows) (hc : cap ≤ 9223372036854775807) (hn : n ≤ 1000) (hb : ∀ i, i < rows.length → (rows.getD i []).length ≤ 1000) :
    Calls Tryd.prog 53 #[.slice A n cap] w fun e w' => ∃ v, e = .returned v ∧ OpsOwn w' w.heap.size rows.flatten v ∧ Keeps (fun _ => False) w w' := by
  have HV := Lib.hid V
  have HL := Lib.hid V.len
  have HB := Lib.hid hb
  have hnc := V.le
  have HT := Lib.hid (fun i (hi : i ≤ n) => flatten_take_bound hb i (by rw [V.len]; exact hi))
  obtain ⟨B, hB⟩ : ∃ B, w.heap.size = B := ⟨_, rfl⟩
  rw [hB]
  have HBE := Lib.hid hB
  clear V hb hB
  go_enter Tryd.func53, Tryd.ntmps53
  go_wp2_with fail
  go_loopw [3, 11] (fun s3 s11 wr => ∃ i st : Nat, i ≤ n ∧ st ≤ 1000000 ∧ s3 = .int .i64 st ∧ s11 = .int .i64 i ∧ (rows.take i).flatten.length = st ∧ Keeps (fun _ => False) w wr) (fun _ s11 _ => n - (intOf s11).toNat)
  case atStart => exact ⟨0, 0, by omega, by omega, rfl, rfl, rfl, Keeps.refl _ _⟩
  case round =>
    obtain ⟨i, st, hi, hst, rfl, rfl, hsum, hK1⟩ := hrel
    have HS := Lib.hid hsum
    have HK1 := Lib.hid hK1
    clear hsum hK1
    by_cases hlt : i < n
    · obtain ⟨ob, oo, Ai, ci, rfl, e0, e1, e2⟩ := (HV.out.quiet HK1.out).get hlt
      have hil : i < rows.length := by rw [HL.out]; exact hlt
      have HFS := Lib.hid (flatten_step rows i hil)
      have HTB := Lib.hid (HT.out (i + 1) hlt)
      obtain ⟨l, hl⟩ : ∃ l, rows.getD i [] = l := ⟨_, rfl⟩
      rw [hl] at e0 HFS
      clear hl hil e1 e2
      have hsl : st + l.length ≤ 1000000 := by
        have := HTB.out
        rw [HFS.out, List.length_append, HS.out] at this
        omega
      have hi63 : (i : Int) < n := by omega
      have h1 : (0 : Int) ≤ (st : Int) + (l.length : Int) := by omega
      have h2 : (st : Int) + (l.length : Int) ≤ 1000000 := by omega
      have HSL := Lib.hid hsl
      have HF2 := Lib.hid (show (rows.take (i + 1)).flatten.length = st + l.length by rw [HFS.out, List.length_append, HS.out])
      obtain ⟨ll, hll⟩ : ∃ ll, l.length = ll := ⟨_, rfl⟩
      rw [hll] at e0 h1 h2 HF2 HSL
      clear hll hsl
      have t1 : decide ((st : Int) + (ll : Int) < 0) = false := decide_eq_false (by omega)
      go_wp2_with fail
      go_roundw
      case rel => exact ⟨i + 1, st + ll, by omega, HSL.out, by go_num, by go_num, HF2.out, HK1.out⟩
      case measure => simp [intOf]; omega
    · obtain rfl : i = n := by omega
      have HSF := Lib.hid (show rows.flatten.length = st by
        have := HS.out
        rwa [List.take_of_length_le (by rw [HL.out]; exact Nat.le_refl _)] at this)
      have HGR := Lib.hid (fun w => grow_any st hst w)
      clear HS
      generalize i = n at *
      generalize wr = w1 at *
      have HBS1 := Lib.hid (show B ≤ w1.heap.size by rw [← HBE.out]; exact HK1.out.size)
      go_wp2_with fail
      refine (HGR.out _).mono ?_
      rintro e w2 ⟨v0, rfl, ho2, hk2⟩
      have HO2 := Lib.hid (ho2.base HBS1.out)
      have HK2 := Lib.hid (HK1.out.trans hk2 (fun _ _ h => h))
      clear ho2 hk2
      go_wp2_with fail
      go_loopw [6, 27] (fun s6 s27 wr => ∃ i : Nat, i ≤ n ∧ s27 = .int .i64 i ∧ OpsOwn wr B (rows.take i).flatten s6 ∧ Keeps (fun _ => False) w wr) (fun _ s27 _ => n - (intOf s27).toNat)
      case atStart => exact ⟨0, by omega, rfl, HO2.out, HK2.out⟩
      case round =>
        obtain ⟨i, hi, rfl, hO, hK⟩ := hrel
        have HO := Lib.hid hO
        have HK := Lib.hid hK
        clear hO hK
        by_cases hlt : i < n
        · obtain ⟨ob, oo, Ai, ci, rfl, e0, e1, e2⟩ := (HV.out.quiet HK.out).get hlt
          have hil : i < rows.length := by rw [HL.out]; exact hlt
          have HFS := Lib.hid (flatten_step rows i hil)
          have HTB := Lib.hid (HT.out (i + 1) hlt)
          obtain ⟨l, hl⟩ : ∃ l, rows.getD i [] = l := ⟨_, rfl⟩
          rw [hl] at e0 e1 HFS
          clear hl hil
          have HE1 := Lib.hid e1
          have hi63 : (i : Int) < n := by omega
          have HSL := Lib.hid (show (rows.take i).flatten.length + l.length ≤ 1000000 by
            have := HTB.out
            rw [HFS.out, List.length_append] at this
            omega)
          have HBS := Lib.hid (show B ≤ wr.heap.size by rw [← HBE.out]; exact HK.out.size)
          clear e1 e2
          obtain ⟨A1, c1, hv1, how⟩ := HO.out
          have hlq := Lib.hid how.lt
          obtain ⟨tl, htl⟩ : ∃ tl, (rows.take i).flatten.length = tl := ⟨_, rfl⟩
          rw [htl] at hv1 HSL
          have HTL := Lib.hid htl
          subst hv1
          obtain ⟨ll, hll⟩ : ∃ ll, l.length = ll := ⟨_, rfl⟩
          rw [hll] at e0 HSL
          have HE2 := Lib.hid (show OpsAt wr Ai ll ci l by rw [← hll]; exact HE1.out)
          clear htl hll how
          go_wp2_with (at_builtin; go_loud (refine wpList_append_ops rfl _ _ rfl B (rows.take i).flatten (.slice A1 tl c1) rfl HO.out Ai ll ci l rfl HE2.out (by rw [HTL.out]; exact HSL.out) HBS.out ?c0))
          case c0 =>
            intro v' w3 hown hk3 _
            have HO3 := Lib.hid (show OpsOwn w3 B (rows.take (i + 1)).flatten v' by rw [HFS.out]; exact hown)
            have HK3 := Lib.hid (show Keeps (fun _ => False) w w3 from HK.out.trans hk3 (fun b hb h => by
              have := (hlq.out b h).1
              have := HBE.out
              omega))
            clear hown hk3
            go_wp2_with fail
            go_roundw
            case rel => exact ⟨i + 1, by omega, by go_num, HO3.out, HK3.out⟩
            case measure => simp [intOf]; omega
        · obtain rfl : i = n := by omega
          have HEE := Lib.hid (show OpsOwn wr B rows.flatten _ from by
            have := HO.out
            rwa [List.take_of_length_le (by rw [HL.out]; exact Nat.le_refl _)] at this)
          go_wp2_with fail
          go_ret
          exact ⟨_, rfl, HEE.out, HK.out⟩
end Go.Proofs.YtlmnmncdoiealaaDoor

/- PlanCheck -/
/- The walk of plan.Check: what it answers is Ir.planFault. -/
namespace Go.Proofs.YtlmnmncdoiealaaDoor
open Go.RowKit Go.Deep
set_option linter.unusedVariables false
set_option linter.unusedSimpArgs false

set_option maxHeartbeats 8000000 in
set_option maxRecDepth 100000 in
theorem planCheck_any (pc many : Int) (A : Option Addr) (n cap : Nat) (rows : List (List Ir.Op)) (w : World) (ea : Nat → Addr) (E : ErrsR w ea) (V : RowsAt w A n cap rows) (hc : cap ≤ 9223372036854775807) :
    Calls Tryd.prog 28 #[.agg #[.int .u32 pc, .int .i64 many, .slice A n cap]] w fun e w' => (∃ v, e = .returned v ∧ FaultIs w' ea (Ir.planFault many rows) v) ∧ Keeps (fun _ => False) w w' := by
  have HE := Lib.hid E
  have HV := Lib.hid V
  have hnc := V.le
  have HL := Lib.hid V.len
  have HN := Lib.hid (code_new w pc many A n cap 38)
  have HF := Lib.hid (show Ir.planFault many rows = ((if many < 1 ∨ 24 < many then (2, -1) else if 200 < n then (8, -1) else if n = 0 then (3, -1)
      else match Ir.rowsErr many rows.length 0 rows with | some (c, i) => (c, (i : Int)) | none => if 8 < Ir.planStores rows then (8, -1) else (0, -1)) : Nat × Int) by rw [← HL.out]; rfl)
  obtain ⟨f, hf⟩ : ∃ f, Ir.planFault many rows = f := ⟨_, rfl⟩
  rw [hf] at HF ⊢
  clear hf V E
  go_enter Tryd.func28, Tryd.ntmps28
  go_upto_region 1 with fail
  obtain ⟨hV, hK⟩ := HN.out
  generalize w.alloc _ = w1 at *
  generalize w.heap.size = x at *
  have HC1 := Lib.hid hV
  have HK1 := Lib.hid hK
  obtain ⟨c0, c1, c2⟩ := hV
  have gb := (HE.out.quiet hK).c.bound
  have gs := (HE.out.quiet hK).c.shape
  have gf := (HE.out.quiet hK).c.full
  clear hK HN
  by_cases h1 : many < 1
  · have HR := Lib.hid (show f = (2, -1) by rw [HF.out, if_pos (.inl h1)])
    have h1' : decide (many < 1) = true := decide_eq_true h1
    clear h1
    go_wp2_with fail
    go_ret
    exact ⟨⟨_, rfl, FaultIs.bare HR.out (by decide)⟩, HK1.out⟩
  by_cases h2 : 24 < many
  · have HR := Lib.hid (show f = (2, -1) by rw [HF.out, if_pos (.inr h2)])
    have h1' : decide (many < 1) = false := decide_eq_false h1
    have h2' : decide (24 < many) = true := decide_eq_true h2
    clear h1 h2
    go_wp2_with fail
    go_ret
    exact ⟨⟨_, rfl, FaultIs.bare HR.out (by decide)⟩, HK1.out⟩
  have h12 : ¬ (many < 1 ∨ 24 < many) := by omega
  have h1' : decide (many < 1) = false := decide_eq_false h1
  have h2' : decide (24 < many) = false := decide_eq_false h2
  clear h1 h2
  by_cases h3 : 200 < n
  · have HR := Lib.hid (show f = (8, -1) by rw [HF.out, if_neg h12, if_pos h3])
    have h3' : decide ((200 : Int) < (n : Int)) = true := decide_eq_true (by omega)
    clear h12 h3
    go_wp2_with fail
    go_ret
    exact ⟨⟨_, rfl, FaultIs.bare HR.out (by decide)⟩, HK1.out⟩
  have h3' : decide ((200 : Int) < (n : Int)) = false := decide_eq_false (by omega)
  by_cases h4 : n = 0
  · have HR := Lib.hid (show f = (3, -1) by rw [HF.out, if_neg h12, if_neg h3, if_pos h4])
    have h4' : ((n : Int) == 0) = true := by simp [h4]
    have H4 := Lib.hid h4
    clear h12 h3 h4
    go_wp2_with fail
    go_ret
    exact ⟨⟨_, rfl, FaultIs.bare HR.out (by decide)⟩, HK1.out⟩
  have h4' : ((n : Int) == 0) = false := by simp [h4]
  have HF2 := Lib.hid (show f = match Ir.rowsErr many rows.length 0 rows with | some (c, i) => (c, (i : Int)) | none => if 8 < Ir.planStores rows then (8, -1) else (0, -1) by rw [HF.out, if_neg h12, if_neg h3, if_neg h4])
  have hn200 : n ≤ 200 := by omega
  obtain ⟨m, hm⟩ : ∃ m, m + 1 = n := ⟨n - 1, by omega⟩
  have hw1 : IntKind.i64.wrap ((n : Int) - 1) = (m : Int) := by rw [IntKind.wrap_i64]; omega
  have hm1 : (0 : Int) ≤ (m : Int) := by omega
  have HM := Lib.hid hm
  clear hm h12 h3 h4 gb gs gf
  go_wp2_with fail
  clear c0 c1 c2
  go_loopw [31] (fun s31 wr => ∃ i : Nat, i ≤ n ∧ s31 = .int .i64 i ∧ (∀ j, j < i → Ir.rowErr many (rows.getD j []) (decide (j + 1 = rows.length)) = 0) ∧ Keeps (fun _ => False) w1 wr) (fun s31 _ => n - (intOf s31).toNat)
  case atStart => exact ⟨0, by omega, rfl, fun j hj => absurd hj (Nat.not_lt_zero _), Keeps.refl _ _⟩
  case round =>
    obtain ⟨i, hi, rfl, hz, hKi⟩ := hrel
    have HZ := Lib.hid hz
    have HKI := Lib.hid hKi
    clear hz hKi
    have HKT := Lib.hid (HK1.out.trans HKI.out (fun _ _ h => h))
    have HCT := Lib.hid (HC1.out.keep HKI.out (fun h => h))
    obtain ⟨c0, c1, c2⟩ := HCT.out
    by_cases hlt : i < n
    · have hil : i < rows.length := by rw [HL.out]; exact hlt
      obtain ⟨ob, oo, Ai, ci, rfl, e0, e1, e2⟩ := (HV.out.quiet HKT.out).get hlt
      have HBAD := Lib.hid (fun (c : Nat) (h : Ir.rowErr many (rows.getD i []) (decide (i + 1 = rows.length)) = c) (h0 : c ≠ 0) => (show f = (c, (i : Int)) by
        rw [HF2.out, Ir.rowsErr_at hil HZ.out (by rw [h]; exact h0), h]))
      obtain ⟨lb, hlb⟩ : ∃ b, decide (i + 1 = rows.length) = b := ⟨_, rfl⟩
      have hbe : ((i : Int) == (m : Int)) = lb := by
        rw [← hlb, HL.out, ← HM.out]
        by_cases e : i = m
        · subst e; simp
        · have : ¬ i + 1 = m + 1 := by omega
          rw [decide_eq_false this]
          exact beq_eq_false_iff_ne.2 (by omega)
      rw [hlb] at HBAD
      have HLB := Lib.hid hlb
      clear hlb
      obtain ⟨l, hl⟩ : ∃ l, rows.getD i [] = l := ⟨_, rfl⟩
      rw [hl] at e0 e1 HBAD
      have HLE := Lib.hid hl
      clear hl hil
      have HE1 := Lib.hid e1
      have HRE := Lib.hid (fun w E V => planRow_any many lb Ai l.length ci l w ea E V e2)
      obtain ⟨c, hcc⟩ : ∃ c, Ir.rowErr many l lb = c := ⟨_, rfl⟩
      rw [hcc] at HRE
      have HCC := Lib.hid hcc
      clear hcc e1 e2
      have hi63 : (i : Int) < n := by omega
      go_wp2_with fail
      refine (HRE.out _ (HE.out.quiet HKT.out) HE1.out).mono ?_
      rintro e w5 ⟨rfl, hk5⟩
      have HK5 := Lib.hid (HKT.out.trans hk5 (fun _ _ h => h))
      have HKI5 := Lib.hid (HKI.out.trans hk5 (fun _ _ h => h))
      clear hk5 e0 c0 c1 c2
      by_cases hc0 : c = 0
      · subst hc0
        rw [show errOf0 ea 0 = .nilIface from rfl]
        have HZ2 := Lib.hid (show ∀ j, j < i + 1 → Ir.rowErr many (rows.getD j []) (decide (j + 1 = rows.length)) = 0 from fun j hj => by
          by_cases e : j = i
          · subst e
            rw [HLE.out, HLB.out, HCC.out]
          · exact HZ.out j (by omega))
        go_wp2_with fail
        go_roundw
        case rel => exact ⟨i + 1, by omega, by go_num, HZ2.out, HKI5.out⟩
        case measure => simp [intOf]; omega
      · have HR := Lib.hid (HBAD.out c HCC.out hc0)
        rw [show errOf0 ea c = .iface 187 (.pointer (some (ea c))) from if_neg hc0]
        have HC0 := Lib.hid hc0
        clear hc0
        go_wp2_with fail
        go_ret
        exact ⟨⟨_, rfl, FaultIs.placed HR.out HC0.out (by omega) w5⟩, HK5.out.alloc _⟩
    · obtain rfl : i = n := by omega
      have HRN := Lib.hid (show f = if 8 < Ir.stores rows.flatten then (8, -1) else (0, -1) by
        rw [HF2.out, Ir.rowsErr_all (fun j hj => HZ.out j (by rw [← HL.out]; exact hj)), ← Ir.stores_flat])
      have HBD := Lib.hid (show ∀ j, j < rows.length → (rows.getD j []).length ≤ 1000 from fun j hj => by
        have := (Ir.rowErr_len (HZ.out j (by rw [← HL.out]; exact hj))).2
        omega)
      clear HZ
      generalize i = n at *
      generalize wr = w3 at *
      have HCN := Lib.hid (fun w V => concat_any A n cap rows w V hc (by omega) HBD.out)
      go_wp2_with fail
      refine (HCN.out _ (HV.out.quiet HKT.out)).mono ?_
      rintro e w5 ⟨v, rfl, hov, hk5⟩
      obtain ⟨A2, c2', rfl, how⟩ := hov
      have HO := Lib.hid (OpsAt.of_owns how rfl)
      have HCP := Lib.hid (owns_cap how)
      have HK5 := Lib.hid (HKT.out.trans hk5 (fun _ _ h => h))
      clear hk5 c0 c1 c2 how
      have HSO := Lib.hid (fun w V => Stores_any A2 rows.flatten.length c2' rows.flatten w V HCP.out)
      obtain ⟨fl, hfl⟩ : ∃ fl, rows.flatten.length = fl := ⟨_, rfl⟩
      obtain ⟨st, hst⟩ : ∃ st, Ir.stores rows.flatten = st := ⟨_, rfl⟩
      rw [hfl] at HSO HO ⊢
      rw [hst] at HSO HRN
      clear hst hfl
      go_wp2_with fail
      refine (HSO.out _ HO.out).mono ?_
      rintro e w6 ⟨rfl, hk6⟩
      have HK6 := Lib.hid (HK5.out.trans hk6 (fun _ _ h => h))
      have gf := (HE.out.quiet HK6.out).c.full
      clear hk6
      by_cases h9 : 8 < st
      · have HR := Lib.hid (show f = (8, -1) by rw [HRN.out, if_pos h9])
        have t9 : decide (8 < st) = true := decide_eq_true h9
        have t9' : decide ((8 : Int) < (st : Int)) = true := decide_eq_true (by omega)
        clear h9
        go_wp2_with fail
        go_ret
        exact ⟨⟨_, rfl, FaultIs.bare HR.out (by decide)⟩, HK6.out⟩
      · have HR := Lib.hid (show f = (0, -1) by rw [HRN.out, if_neg h9])
        have t9 : decide (8 < st) = false := decide_eq_false h9
        have t9' : decide ((8 : Int) < (st : Int)) = false := decide_eq_false (by omega)
        clear h9
        go_wp2_with fail
        go_ret
        exact ⟨⟨_, rfl, .inl ⟨by rw [HR.out], rfl⟩⟩, HK6.out⟩
/-- how many the widest row has -/
def Ir.wide (rows : List (List Ir.Op)) : Nat := rows.foldl (fun n l => max n l.length) 0
theorem Ir.wide_step (rows : List (List Ir.Op)) (i : Nat) (h : i < rows.length) : Ir.wide (rows.take (i + 1)) = max (Ir.wide (rows.take i)) (rows.getD i []).length := by
  unfold Ir.wide
  rw [List.take_succ_eq_append_getElem h, List.foldl_append]
  have : rows.getD i [] = rows[i] := by simp [List.getD, h]
  rw [this]
  rfl
end Go.Proofs.YtlmnmncdoiealaaDoor

/- PGood -/
/- A plan whose fault is none, plainly. -/
namespace Go.Proofs.YtlmnmncdoiealaaDoor
open Go.RowKit
set_option linter.unusedVariables false
namespace Ir
structure PGood (many : Int) (rows : List (List Op)) : Prop where
  range : 1 ≤ many ∧ many ≤ 24
  len : rows.length ≤ 200
  row : ∀ l ∈ rows, l.length ≤ 4 ∧ ∀ o ∈ l, opErr o many = 0
theorem opErrs_all0 {many : Int} : ∀ {l : List Op}, opErrs many l = 0 → ∀ o ∈ l, opErr o many = 0
  | [], _, o, h => by cases h
  | p :: r, h, o, ho => by
    unfold opErrs at h
    split at h
    · rename_i hp
      exact absurd h hp
    · rename_i hp
      rcases List.mem_cons.1 ho with rfl | ho
      · simpa using hp
      · exact opErrs_all0 h o ho
theorem rowErr_row {many : Int} {l : List Op} {last : Bool} (h : rowErr many l last = 0) : l.length ≤ 4 ∧ ∀ o ∈ l, opErr o many = 0 := by
  unfold rowErr at h
  split at h
  · cases h
  rename_i h1
  split at h
  · rename_i h2
    exact absurd h h2
  rename_i h2
  exact ⟨by omega, opErrs_all0 (by simpa using h2)⟩
theorem rowsErr_no {many : Int} {n : Nat} : ∀ (rows : List (List Op)) (i : Nat), (match rowsErr many n i rows with | some (c, _) => c ≠ 0 | none => ∀ l ∈ rows, l.length ≤ 4 ∧ ∀ o ∈ l, opErr o many = 0)
  | [], _ => fun l h => by cases h
  | l :: r, i => by
    unfold rowsErr
    by_cases h : rowErr many l (decide (i + 1 = n)) ≠ 0
    · rw [if_pos h]
      exact h
    · rw [if_neg h]
      have hr := rowsErr_no (many := many) (n := n) r (i + 1)
      cases hq : rowsErr many n (i + 1) r with
      | some p =>
        rw [hq] at hr
        exact hr
      | none =>
        rw [hq] at hr
        intro q hq
        rcases List.mem_cons.1 hq with rfl | hq
        · exact rowErr_row (by simpa using h)
        · exact hr q hq
theorem pgood_of {many : Int} {rows : List (List Op)} (h : (planFault many rows).1 = 0) : PGood many rows := by
  unfold planFault at h
  split at h
  · cases h
  rename_i h1
  split at h
  · cases h
  rename_i h2
  split at h
  · cases h
  have hr := rowsErr_no (many := many) (n := rows.length) rows 0
  cases hq : rowsErr many rows.length 0 rows with
  | some p =>
    rw [hq] at h hr
    exact absurd h hr
  | none =>
    rw [hq] at hr
    exact ⟨by omega, by omega, hr⟩
theorem planFault_ok {many : Int} {rows : List (List Op)} (h : (planFault many rows).1 = 0) : planFault many rows = (0, -1) := by
  unfold planFault at h ⊢
  split at h
  · cases h
  rename_i h1
  split at h
  · cases h
  rename_i h2
  split at h
  · cases h
  rename_i h3
  rw [if_neg h1, if_neg h2, if_neg h3]
  have hr := rowsErr_no (many := many) (n := rows.length) rows 0
  cases hq : rowsErr many rows.length 0 rows with
  | some p =>
    rw [hq] at h hr
    exact absurd h hr
  | none =>
    rw [hq] at h
    dsimp only at h ⊢
    split at h
    · cases h
    · rename_i h4
      rw [if_neg h4]
end Ir
end Go.Proofs.YtlmnmncdoiealaaDoor
