import Derived.Test.YtlmnmncdoiealaaDoorKdz15
import Derived.Shelf.SortM.Plain
import Derived.Shelf.SortM.SortNone
import Derived.Ground.SlgmProg
import Derived.Ground.Names2Prog
import Derived.Shelf.Slices.In.CompactI
import Derived.Test.YtlmnmncdoiealaaDoorProg
import Derived.Sort.OwnSortedInts
import Derived.Lib.OwnBridge
import Derived.Lib.SlicesCompact
import Derived.Lib.RowBridge
import Derived.Lib.AppendZeros

/- KeepS -/
/- The walks of keep's find. -/
namespace Go.Proofs.YtlmnmncdoiealaaDoor
open Go.RowKit Go.Deep
set_option linter.unusedVariables false
set_option linter.unusedSimpArgs false

theorem find1_call (k : K4) (gb : Nat) (pc : Int) (W : World) (h : W.heap[gb]? = some (.cells #[.int .u32 pc] 29 (0, 0))) :
    Calls Tryd.prog 66 #[.agg (kC k), .pointer (some ⟨gb, 0, none⟩)] W fun e w' => e = .returned (.bool (k.pc == pc)) ∧ Keeps (fun _ => False) W w' := by
  have HB := Lib.hid h
  have HXB := Lib.hid (blk_alloc_new W (.cells #[.int .u32 k.pc, .int .i64 k.many, .slice k.A k.n k.c, .slice k.P k.pn k.pcap] 76))
  have HXK := Lib.hid ((Keeps.refl (fun _ => False) W).alloc (.cells #[.int .u32 k.pc, .int .i64 k.many, .slice k.A k.n k.c, .slice k.P k.pn k.pcap] 76))
  unfold kC
  clear h
  go_enter Tryd.func66, Tryd.ntmps66
  go_upto_region 1 with fail
  have HB1 := Lib.hid ((HXK.out.block gb (Array.getElem?_eq_some_iff.1 HB.out).1 (fun h => h)).trans HB.out)
  generalize W.alloc _ = w1 at *
  generalize W.heap.size = x at *
  have x0 : w1.cell? ⟨x, 0, none⟩ = some (.int .u32 k.pc) := cell_atK HXB.out 0
  have d0 : w1.cell? ⟨gb, 0, none⟩ = some (.int .u32 pc) := cell_atK HB1.out 0
  go_wp2_with fail
  go_ret
  exact ⟨rfl, HXK.out⟩
theorem find1_pred (l : List K4) (gb : Nat) (pc : Int) : PredK 66 #[.pointer (some ⟨gb, 0, none⟩)] (fun k => k.pc == pc) l (fun _ _ => False) (fun _ W => W.heap[gb]? = some (.cells #[.int .u32 pc] 29 (0, 0))) where
  call := fun done k W _ _ h => (find1_call k gb pc W h).mono fun e w' hh => ⟨hh.1, (hh.2.block gb (Array.getElem?_eq_some_iff.1 h).1 (fun h => h)).trans h, hh.2⟩
  ty := fun _ _ _ _ _ _ _ h => h
  quiet := fun _ W W' k h => (k.block gb (Array.getElem?_eq_some_iff.1 h).1 (fun h => h)).trans h
/-- what find answers -/
def FindIs (l : List K4) (pc : Int) (w : World) (e : Ending) (w' : World) : Prop :=
  ((∃ i, i < l.length ∧ ((l.getD i k40).pc == pc) = true ∧ (∀ j, j < i → ((l.getD j k40).pc == pc) = false) ∧ e = .returned (.int .i64 (i : Int))) ∨ ((∀ j, j < l.length → ((l.getD j k40).pc == pc) = false) ∧ e = .returned (.int .i64 (-1)))) ∧ Keeps (fun _ => False) w w'
set_option maxHeartbeats 4000000 in
set_option maxRecDepth 100000 in
theorem keepFind_any (B kb : Nat) (mx : Int) (l : List K4) (pg : K4 → List Int) (rw : K4 → List (List Ir.Op)) (pc : Int) (w : World) (K : KeepAt w B kb mx l pg rw) (hl : l.length ≤ 100000) :
    Calls Tryd.prog 50 #[.pointer (some ⟨kb, 0, none⟩), .int .u32 pc] w (FindIs l pc w) := by
  have HLT := Lib.hid K.lt
  have HLN := Lib.hid hl
  have HA := Lib.hid ((Keeps.refl (fun _ => False) w).alloc (.cells #[.int .u32 pc] 29))
  have HB0 := Lib.hid (blk_alloc_new w (.cells #[.int .u32 pc] 29))
  obtain ⟨v, hb, hko⟩ := K.box
  obtain ⟨A, cap, hv, _⟩ := id hko
  obtain ⟨n, hn⟩ : ∃ n, l.length = n := ⟨_, rfl⟩
  rw [hn] at hv
  subst hv
  have HBX := Lib.hid hb
  have HKO := Lib.hid hko
  have HLE := Lib.hid hn
  have HANS := Lib.hid (fun (e : Ending) (w' : World) (h : ((∃ i, i < l.length ∧ ((l.getD i k40).pc == pc) = true ∧ (∀ j, j < i → ((l.getD j k40).pc == pc) = false) ∧ e = .returned (.int .i64 (i : Int))) ∨ ((∀ j, j < l.length → ((l.getD j k40).pc == pc) = false) ∧ e = .returned (.int .i64 (-1)))) ∧ Keeps (fun _ => False) w w') => (show FindIs l pc w e w' from h))
  clear K hl hb hko hn
  go_enter Tryd.func50, Tryd.ntmps50
  go_upto_region 1 with fail
  have HKO1 := Lib.hid (HKO.out.quiet HA.out)
  have HBX1 := Lib.hid ((HA.out.block kb HLT.out (fun h => h)).trans HBX.out)
  generalize w.alloc _ = w1 at *
  generalize w.heap.size = gb at *
  have c0 : w1.cell? ⟨kb, 1, none⟩ = some (.slice A n cap) := cell_atK HBX1.out 1
  have HIX := Lib.hid (indexK_any 66 #[.pointer (some ⟨gb, 0, none⟩)] (fun k => k.pc == pc) (fun _ _ => False) (fun _ => False) (fun _ W => W.heap[gb]? = some (.cells #[.int .u32 pc] 29 (0, 0))) (enters_of Tryd.func66 (by kernel_rfl) rfl) B A n cap l w1 HKO1.out HLE.out (by have := HLN.out; have := HLE.out; omega) (find1_pred l gb pc) HB0.out (fun _ _ _ _ h => h.elim))
  go_wp2_with fail
  refine HIX.out.mono ?_
  rintro e w2 (⟨i, hi, h1, h2, rfl, _, _, hk⟩ | ⟨hno, rfl, _, _, hk⟩)
  · have HF := Lib.hid (And.intro hi (And.intro h1 h2))
    have HK2 := Lib.hid (HA.out.trans hk (fun _ _ h => h))
    clear hi h1 h2 hk c0
    go_wp2_with fail
    go_ret
    exact HANS.out _ _ ⟨.inl ⟨i, HF.out.1, HF.out.2.1, HF.out.2.2, rfl⟩, HK2.out⟩
  · have HF := Lib.hid hno
    have HK2 := Lib.hid (HA.out.trans hk (fun _ _ h => h))
    clear hno hk c0
    go_wp2_with fail
    go_ret
    exact HANS.out _ _ ⟨.inr ⟨HF.out, rfl⟩, HK2.out⟩
end Go.Proofs.YtlmnmncdoiealaaDoor

/- SortLaid -/
/-
  DERIVED: THE SHELF's CONTRACTS AT THIS DUMP, IN PLAIN WORDS (tools/lay-plain.mjs out of 'YtlmnmncdoiealaaDoorSortShelf.lean', which tools/lay-shelf.mjs wrote): THE SAME DECLARATIONS UNDER THE SAME NAMES: 'import', 'namespace', 'open', 'def', 'theorem' AND NOTHING ELSE: no command of the shelf's: FOR A HAND-IN. Each laying: the table of numbers ('.._ren') and one theorem, a field a fact of the dump's own or the kernel's comparison; each contract: ONE APPLICATION.
-/
namespace Go.Proofs
open Go.Shelf
def Tryd.sortK_ren : Go.Shelf.Ren := ⟨fun | 5 => 34 | 8 => 57 | 7 => 56 | 19 => 84 | 20 => 85 | 10 => 75 | 11 => 76 | 12 => 77 | 13 => 78 | 14 => 79 | 15 => 80 | 16 => 81 | 17 => 82 | 18 => 83 | 30 => 101 | 31 => 102 | 32 => 103 | 33 => 104 | 34 => 105 | 35 => 106 | 40 => 113 | n => n, fun | 23 => 31 | 25 => 3 | 3 => 3 | 32 => 87 | 22 => 31 | 0 => 0 | 44 => 29 | 46 => 140 | 4 => 4 | 36 => 132 | 35 => 131 | 41 => 137 | 5 => 5 | 9 => 9 | 53 => 159 | 57 => 163 | 63 => 181 | 64 => 92 | n => n, fun | n => n⟩
theorem Tryd.sortK : Go.Proofs.SlLaysM.n5 Tryd.prog Tryd.sortK_ren := {
  mixed := by kernel_rfl
  f5 := ⟨Tryd.f34.name, by decide, Tryd.func34.trans (congrArg some (by kernel_rfl))⟩
  f7 := ⟨Tryd.f56.name, by decide, Tryd.func56.trans (congrArg some (by kernel_rfl))⟩
  f8 := Tryd.func57.trans (congrArg some (by kernel_rfl))
  f10 := ⟨Tryd.f75.name, by decide, Tryd.func75.trans (congrArg some (by kernel_rfl))⟩
  f11 := ⟨Tryd.f76.name, by decide, Tryd.func76.trans (congrArg some (by kernel_rfl))⟩
  f12 := ⟨Tryd.f77.name, by decide, Tryd.func77.trans (congrArg some (by kernel_rfl))⟩
  f13 := ⟨Tryd.f78.name, by decide, Tryd.func78.trans (congrArg some (by kernel_rfl))⟩
  f14 := ⟨Tryd.f79.name, by decide, Tryd.func79.trans (congrArg some (by kernel_rfl))⟩
  f15 := ⟨Tryd.f80.name, by decide, Tryd.func80.trans (congrArg some (by kernel_rfl))⟩
  f16 := ⟨Tryd.f81.name, by decide, Tryd.func81.trans (congrArg some (by kernel_rfl))⟩
  f17 := ⟨Tryd.f82.name, by decide, Tryd.func82.trans (congrArg some (by kernel_rfl))⟩
  f18 := ⟨Tryd.f83.name, by decide, Tryd.func83.trans (congrArg some (by kernel_rfl))⟩
  f19 := Tryd.func84.trans (congrArg some (by kernel_rfl))
  f20 := Tryd.func85.trans (congrArg some (by kernel_rfl))
  f30 := ⟨Tryd.f101.name, by decide, Tryd.func101.trans (congrArg some (by kernel_rfl))⟩
  f31 := Tryd.func102.trans (congrArg some (by kernel_rfl))
  f32 := Tryd.func103.trans (congrArg some (by kernel_rfl))
  f33 := ⟨Tryd.f104.name, by decide, Tryd.func104.trans (congrArg some (by kernel_rfl))⟩
  f34 := ⟨Tryd.f105.name, by decide, Tryd.func105.trans (congrArg some (by kernel_rfl))⟩
  f35 := ⟨Tryd.f106.name, by decide, Tryd.func106.trans (congrArg some (by kernel_rfl))⟩
  f40 := ⟨Tryd.f113.name, by decide, Tryd.func113.trans (congrArg some (by kernel_rfl))⟩
  t0 := Tryd.underlying0
  a0 := Tryd.isAgg0
  z0 := Tryd.sizeOf0
  v0 := Tryd.zeroValue0
  t3 := Tryd.underlying3
  a3 := Tryd.isAgg3
  z3 := Tryd.sizeOf3
  v3 := Tryd.zeroValue3
  t4 := Tryd.underlying4
  a4 := Tryd.isAgg4
  z4 := Tryd.sizeOf4
  v4 := Tryd.zeroValue4
  t5 := Tryd.underlying5
  a5 := Tryd.isAgg5
  z5 := Tryd.sizeOf5
  v5 := Tryd.zeroValue5
  t9 := Tryd.underlying9
  a9 := Tryd.isAgg9
  z9 := Tryd.sizeOf9
  v9 := Tryd.zeroValue9
  t22 := Tryd.underlying31
  a22 := Tryd.isAgg31
  z22 := Tryd.sizeOf31
  v22 := Tryd.zeroValue31
  t23 := Tryd.underlying31
  a23 := Tryd.isAgg31
  z23 := Tryd.sizeOf31
  v23 := Tryd.zeroValue31
  t25 := Tryd.underlying3
  a25 := Tryd.isAgg3
  z25 := Tryd.sizeOf3
  v25 := Tryd.zeroValue3
  t32 := Tryd.underlying87
  a32 := Tryd.isAgg87
  z32 := Tryd.sizeOf87
  v32 := Tryd.zeroValue87
  t35 := Tryd.underlying131
  a35 := Tryd.isAgg131
  z35 := Tryd.sizeOf131
  v35 := Tryd.zeroValue131
  t36 := Tryd.underlying132
  a36 := Tryd.isAgg132
  z36 := Tryd.sizeOf132
  v36 := Tryd.zeroValue132
  t41 := Tryd.underlying137
  a41 := Tryd.isAgg137
  z41 := Tryd.sizeOf137
  v41 := Tryd.zeroValue137
  t44 := Tryd.underlying29
  a44 := Tryd.isAgg29
  z44 := Tryd.sizeOf29
  v44 := Tryd.zeroValue29
  t46 := Tryd.underlying140
  a46 := Tryd.isAgg140
  z46 := Tryd.sizeOf140
  v46 := Tryd.zeroValue140
  t53 := Tryd.underlying159
  a53 := Tryd.isAgg159
  z53 := Tryd.sizeOf159
  v53 := Tryd.zeroValue159
  t57 := Tryd.underlying163
  a57 := Tryd.isAgg163
  z57 := Tryd.sizeOf163
  v57 := Tryd.zeroValue163
  t63 := Tryd.underlying181
  a63 := Tryd.isAgg181
  z63 := Tryd.sizeOf181
  v63 := Tryd.zeroValue181
  t64 := Tryd.underlying92
  a64 := Tryd.isAgg92
  z64 := Tryd.sizeOf92
  v64 := Tryd.zeroValue92 }
def Tryd.compactK_ren : Go.Shelf.Ren := ⟨fun | 20 => 35 | n => n, fun | 22 => 31 | 3 => 3 | 4 => 4 | 0 => 0 | n => n, fun | n => n⟩
theorem Tryd.compactK : Go.Proofs.Lays2.n20 Tryd.prog Tryd.compactK_ren := {
  mixed := by kernel_rfl
  f20 := Tryd.func35.trans (congrArg some (by kernel_rfl))
  t0 := Tryd.underlying0
  a0 := Tryd.isAgg0
  z0 := Tryd.sizeOf0
  v0 := Tryd.zeroValue0
  t3 := Tryd.underlying3
  a3 := Tryd.isAgg3
  z3 := Tryd.sizeOf3
  v3 := Tryd.zeroValue3
  t4 := Tryd.underlying4
  a4 := Tryd.isAgg4
  z4 := Tryd.sizeOf4
  v4 := Tryd.zeroValue4
  t22 := Tryd.underlying31
  a22 := Tryd.isAgg31
  z22 := Tryd.sizeOf31
  v22 := Tryd.zeroValue31
  i3 := by kernel_rfl }
end Go.Proofs

/- KeepQ -/
/- Numbers appended, sorted and made one each: rows of the call's own. -/
namespace Go.Proofs.YtlmnmncdoiealaaDoor
open Go.RowKit Go.Deep Go.Sort Go.Shelf
set_option linter.unusedVariables false
set_option linter.unusedSimpArgs false

/-- each once -/
def uniqI (l : List Int) : List Int := Lib.compact (l.mergeSort fun x y => decide (x ≤ y))
theorem mem_compactUpTo (d : Array Int) : ∀ m j, j < m → d[j]! ∈ Lib.compactUpTo d m := by
  intro m
  induction m with
  | zero => intro j h; omega
  | succ m ih =>
    intro j hj
    rw [Lib.compactUpTo_succ, List.mem_append]
    by_cases h : j < m
    · exact .inl (ih j h)
    · obtain rfl : j = m := by omega
      cases hk : Lib.keeps d j with
      | true => exact .inr (by simp)
      | false =>
        left
        unfold Lib.keeps at hk
        have h2 := of_decide_eq_false hk
        have h3 : j ≠ 0 := fun e => h2 (.inl e)
        have h4 : d[j]! = d[j - 1]! := Classical.byContradiction fun e => h2 (.inr e)
        rw [h4]
        exact ih (j - 1) (by omega)
theorem mem_compact_of {zs : List Int} {x : Int} (h : x ∈ zs) : x ∈ Lib.compact zs := by
  obtain ⟨j, hj, rfl⟩ := List.mem_iff_getElem.1 h
  have := mem_compactUpTo zs.toArray zs.length j hj
  unfold Lib.compact
  simpa [getElem!_pos, hj] using this
theorem of_mem_compact {zs : List Int} {x : Int} (h : x ∈ Lib.compact zs) : x ∈ zs := by
  unfold Lib.compact Lib.compactUpTo at h
  obtain ⟨i, hi, rfl⟩ := List.mem_map.1 h
  have hi' : i < zs.length := List.mem_range.1 (List.mem_filter.1 hi).1
  simp [getElem!_pos, hi']
theorem mem_uniqI {l : List Int} {x : Int} : x ∈ uniqI l ↔ x ∈ l :=
  ⟨fun h => (List.mergeSort_perm l _).subset (of_mem_compact h), fun h => mem_compact_of ((List.mergeSort_perm l _).symm.subset h)⟩
theorem uniqI_length_le (l : List Int) : (uniqI l).length ≤ l.length := by
  have := Lib.compact_length_le (l.mergeSort fun x y => decide (x ≤ y))
  rw [List.length_mergeSort] at this
  exact this
theorem IOwn.nil (w : World) (B : Nat) : IOwn w B [] (.slice none 0 0) := ⟨none, 0, rfl, World.ownsRow_nil _ _ _ _⟩
theorem IOwn.nilK {w : World} {B : Nat} {l : List Int} {A : Option Addr} {n cap : Nat} (h : IOwn w B l (.slice A n cap)) : A = none → cap = 0 := fun ha => by
  obtain ⟨A', c', e, hl, ⟨h4, h5⟩ | ⟨g, cap', cur, h4, _⟩⟩ := h
  · injection h4 with e1 e2 e3
  · injection h4 with e1 e2 e3
    rw [ha] at e1
    cases e1
theorem IOwn.typed {w : World} {B : Nat} {l : List Int} {v : Value} (h : IOwn w B l v) : ∀ g, v.ownBlock = some g → ∃ cs, w.heap[g]? = some (.cells cs 3 (0, 0)) := fun g hg => by
  obtain ⟨A, cap, rfl, ho⟩ := h
  exact owns_typed ho hg
set_option maxRecDepth 100000 in
theorem wpList_append_i {w : World} {ops : Array Oper} {rest : List Oper} {o : Oper} {a : Act} {Q : Exit → Act → World → Prop} (hgd : o.guard = none) (s x : Operand)
    (ho : o.op = .call { callee := .builtin .append, args := #[s, x], argTypes := #[31, 31] }) (B : Nat) (l1 : List Int) (v : Value) (hs : a.eval s = v) (h1 : IOwn w B l1 v)
    (A2 : Option Addr) (m c : Nat) (l2 : List Int) (hx : a.eval x = .slice A2 m c) (V2 : Reads w A2 m c (fun i => .int .i64 (l2.getD i 0))) (hl2 : m = l2.length) (hcn : A2 = none → c = 0) (hb : l1.length + m ≤ 1000000) (hbase : B ≤ w.heap.size)
    (h : ∀ v' w', IOwn w' B (l1 ++ l2) v' → Keeps (fun k => v.ownBlock = some k) w w' → wpList Tryd.prog ops Q rest (a.put o.dst v') w') : wpList Tryd.prog ops Q (o :: rest) a w := by
  obtain ⟨i0, hi, hz0, hz1, hz2⟩ := info_parts Tryd.info_i
  obtain ⟨A1, c1, rfl, ho1⟩ := h1
  cases A2 with
  | none =>
    have hcap : c = 0 := hcn rfl
    have hm : m = 0 := by have := V2.1; omega
    subst hcap hm
    obtain rfl : l2 = [] := List.eq_nil_of_length_eq_zero hl2.symm
    refine Lib.wpList_append_run w hgd s x _ _ ho _ _ hs hx _ _ (run_append_owned_none w B 31 o.type 3 i0 1 Tryd.underlying31 hi _ _ _ ho1) ?_
    exact h _ _ (by rw [List.append_nil]; exact ⟨A1, c1, rfl, ho1⟩) (Keeps.refl _ _)
  | some ad =>
    refine wpList_append_mine hgd s x 31 ho B 3 i0 _ 1 8 Tryd.underlying31 hi hz0 hz1 hz2 rfl (by decide) (.slice A1 l1.length c1) l1.length (intL l1) hs ho1 ad m c (intL l2) hx (by unfold intL; rw [List.length_map]; omega) (V2.at_int hl2 rfl) (intL_one l2) (by unfold maxLen; omega) (by omega) hbase ?_
    intro v' w' hown hgrow hmv
    obtain ⟨A', cap', rfl⟩ := owns_slice hown
    refine h _ _ ⟨A', cap', by rw [List.length_append, hl2], ?_⟩ ((Keeps.refl _ w).grown hgrow (fun k hk _ => hk))
    rw [List.map_append, List.length_append, ← hl2]
    exact hown
theorem sortI_any (B : Nat) (l : List Int) (A : Option Addr) (n c : Nat) (w : World) (h : IOwn w B l (.slice A n c)) (hn : n ≤ 1000000) :
    Calls Tryd.prog 34 #[.slice A n c] w fun e w' => e = .returned (.tuple #[]) ∧ IOwn w' B (l.mergeSort fun x y => decide (x ≤ y)) (.slice A n c) ∧ Keeps (fun b => (Value.slice A n c).ownBlock = some b) w w' := by
  obtain ⟨A1, c1, e, ho⟩ := h
  injection e with e1 e2 e3
  subst e1 e2 e3
  obtain ⟨hl, ⟨h4, h5⟩ | ⟨g, cap', cur, h4, h5, h6, h7, h8, h9, h10⟩⟩ := id ho
  · injection h4 with e1 e2 e3
    subst e1 e3
    obtain rfl : l = [] := List.eq_nil_of_length_eq_zero e2
    refine (AnyM.slices_Sort_int_none Tryd.sortK none 0 w).mono ?_
    rintro e w' ⟨rfl, rfl⟩
    exact ⟨rfl, by simpa using IOwn.nil _ _, Keeps.refl _ _⟩
  · injection h4 with e1 e2 e3
    subst e1 e3
    rw [Nat.mul_one] at h10
    have hH := holds_of_blockI h6 h10
    refine (AnyM.slices_Sort_int Tryd.sortK g 0 c l w hH (Array.getElem?_eq_some_iff.1 h6).1 (by omega)).mono ?_
    rintro e w' ⟨rfl, q, os, rfl⟩
    have hlm : (l.mergeSort fun x y => decide (x ≤ y)).length = l.length := List.length_mergeSort l
    refine ⟨rfl, ⟨some ⟨g, 0, none⟩, c, by rw [hlm], ?_⟩, (Keeps.refl _ w).grown (grownBy_sortedI _) (fun k hk _ => hk)⟩
    rw [hlm]
    exact ownsRow_sortedI hlm h5 h6 h7 h8 h9
theorem compactI_any (B : Nat) (l : List Int) (A : Option Addr) (n c : Nat) (w : World) (h : IOwn w B l (.slice A n c)) (hn : n ≤ 1000000) :
    Calls Tryd.prog 35 #[.slice A n c] w fun e w' => ∃ v, e = .returned v ∧ IOwn w' B (Lib.compact l) v ∧ Keeps (fun b => (Value.slice A n c).ownBlock = some b) w w' := by
  obtain ⟨A1, c1, e, ho⟩ := h
  injection e with e1 e2 e3
  subst e1 e2 e3
  obtain ⟨hl, ⟨h4, h5⟩ | ⟨g, cap', cur, h4, h5, h6, h7, h8, h9, h10⟩⟩ := id ho
  · injection h4 with e1 e2 e3
    subst e1 e3
    obtain rfl : l = [] := List.eq_nil_of_length_eq_zero e2
    refine Calls.mono (calls_of_every_depth fun D => AnyS.slices_Compact_int_empty_in Tryd.compactK D none 0 w) ?_
    rintro e w' ⟨rfl, rfl⟩
    exact ⟨_, rfl, by simpa [Lib.compact, Lib.compactUpTo] using IOwn.nil _ _, Keeps.refl _ _⟩
  · injection h4 with e1 e2 e3
    subst e1 e3
    rw [Nat.mul_one] at h10
    have hH := holds_of_blockI h6 h10
    refine Calls.mono (calls_of_every_depth fun D => AnyS.slices_Compact_int_in Tryd.compactK D g 0 c l w hH (by omega) h7) ?_
    rintro e w' ⟨rfl, q, rfl⟩
    have hle := Lib.compact_length_le l
    have hc := Lib.ownsRow_putRow (q := q) (k := (Lib.compact l).length) (ys := Lib.compact l ++ List.replicate (l.length - (Lib.compact l).length) 0) ho (by simp; omega) hle
    rw [List.take_left] at hc
    refine ⟨_, rfl, ⟨_, _, rfl, hc⟩, ⟨rfl, rfl, rfl, by simp [putRow, mapBlock, Sort.ahead], fun k hk hne => ?_⟩⟩
    have : g ≠ k := fun e => hne (by rw [e]; rfl)
    simp [putRow, mapBlock, Sort.ahead, Array.getElem?_modify, this]
end Go.Proofs.YtlmnmncdoiealaaDoor
