import Derived.Test.YtlmnmncdoiealaaGreatDoorKaz11
import Derived.Shelf.SortM.Plain
import Derived.Shelf.SortM.SortNone
import Derived.Ground.SlgmProg
import Derived.Ground.Names2Prog
import Derived.Shelf.Slices.In.CompactI
import Derived.Test.YtlmnmncdoiealaaGreatDoorProg
import Derived.Sort.OwnSortedInts
import Derived.Lib.OwnBridge
import Derived.Lib.SlicesCompact
import Derived.Lib.RowBridge
import Derived.Lib.AppendZeros

/- RkFind -/
/- The walk of the reference's Find. -/
namespace Go.Proofs.YtlmnmncdoiealaaGreatDoor
open Go.RowKit Go.Deep
set_option linter.unusedVariables false
set_option linter.unusedSimpArgs false

set_option maxHeartbeats 4000000 in
set_option maxRecDepth 100000 in
theorem rkFind_any (mb : Nat) (mx : Int) (L : List K4) (pc : Int) (w : World) (R : RefKeep w mb mx L) (hl : L.length ≤ 100000) :
    Calls Tryz.prog 14 #[.pointer (some ⟨mb, 0, none⟩), .int .u32 pc] w (FindIs L pc w) := by
  obtain ⟨A, n, cap, hb, hr⟩ := R.box
  have HANS := Lib.hid (fun (e : Ending) (w' : World) (h : ((∃ i, i < L.length ∧ ((L.getD i k40).pc == pc) = true ∧ (∀ j, j < i → ((L.getD j k40).pc == pc) = false) ∧ e = .returned (.int .i64 (i : Int))) ∨ ((∀ j, j < L.length → ((L.getD j k40).pc == pc) = false) ∧ e = .returned (.int .i64 (-1)))) ∧ Keeps (fun _ => False) w w') => (show FindIs L pc w e w' from h))
  have HB := Lib.hid hb
  have HR := Lib.hid hr
  have HLE := Lib.hid hr.len
  have hnc := hr.le
  have hnb : n ≤ 100000 := by have := hr.len; omega
  clear hb hr R hl
  go_enter Tryz.func14, Tryz.ntmps14
  go_wp2_with fail
  go_loopw [4, 5] (fun s4 s5 wr => ∃ i : Nat, i ≤ n ∧ s5 = .int .i64 i ∧ s4 = .int .i64 0 ∧ (∀ j, j < i → ((L.getD j k40).pc == pc) = false) ∧ Keeps (fun _ => False) w wr) (fun _ s5 _ => n - (intOf s5).toNat)
  case atStart => exact ⟨0, by omega, rfl, rfl, fun j hj => absurd hj (by omega), Keeps.refl _ _⟩
  case round =>
    obtain ⟨i, hi, rfl, rfl, hZ, hK⟩ := hrel
    have HZ := Lib.hid hZ
    have HK := Lib.hid hK
    clear hZ hK
    have c0 : wr.cell? ⟨mb, 1, none⟩ = some (.slice A n cap) := HK.out.cell' (cell_atK HB.out 1) (fun h => h)
    by_cases hlt : i < n
    · obtain ⟨b, o, rfl, hcell⟩ := (HR.out.quiet HK.out).get hlt
      have hi63 : (i : Int) < n := by omega
      obtain ⟨k, hk⟩ : ∃ k, L.getD i k40 = k := ⟨_, rfl⟩
      rw [hk] at hcell
      have HKE := Lib.hid hk
      have e0 : wr.cell? ⟨b, o + i * 4, none⟩ = some (.int .u32 k.pc) := hcell 0 _ (by omega) rfl
      clear hcell hk
      cases hq : (k.pc == pc)
      · have HQ := Lib.hid (show ∀ j, j < i + 1 → ((L.getD j k40).pc == pc) = false from fun j hj => by
          by_cases e : j < i
          · exact HZ.out j e
          · obtain rfl : j = i := by omega
            rw [HKE.out]
            exact hq)
        go_wp2_with fail
        go_roundw
        case rel => exact ⟨i + 1, by omega, by go_num, rfl, HQ.out, HK.out⟩
        case measure => simp [intOf]; omega
      · have HQ := Lib.hid (show ((L.getD i k40).pc == pc) = true by rw [HKE.out]; exact hq)
        go_wp2_with fail
        go_ret
        exact HANS.out _ _ ⟨.inl ⟨i, by rw [HLE.out]; exact hlt, HQ.out, HZ.out, rfl⟩, HK.out⟩
    · obtain rfl : i = n := by omega
      go_wp2_with fail
      go_ret
      exact HANS.out _ _ ⟨.inr ⟨fun j hj => HZ.out j (by rw [← HLE.out]; exact hj), rfl⟩, HK.out⟩
end Go.Proofs.YtlmnmncdoiealaaGreatDoor

/- SortLaid -/
/-
  DERIVED: THE SHELF's CONTRACTS AT THIS DUMP, IN PLAIN WORDS (tools/lay-plain.mjs out of 'YtlmnmncdoiealaaGreatDoorSortShelf.lean', which tools/lay-shelf.mjs wrote): THE SAME DECLARATIONS UNDER THE SAME NAMES: 'import', 'namespace', 'open', 'def', 'theorem' AND NOTHING ELSE: no command of the shelf's: FOR A HAND-IN. Each laying: the table of numbers ('.._ren') and one theorem, a field a fact of the dump's own or the kernel's comparison; each contract: ONE APPLICATION.
-/
namespace Go.Proofs
open Go.Shelf
def Tryz.sortK_ren : Go.Shelf.Ren := ⟨fun | 5 => 39 | 8 => 55 | 7 => 54 | 19 => 82 | 20 => 83 | 10 => 73 | 11 => 74 | 12 => 75 | 13 => 76 | 14 => 77 | 15 => 78 | 16 => 79 | 17 => 80 | 18 => 81 | 30 => 93 | 31 => 94 | 32 => 95 | 33 => 96 | 34 => 97 | 35 => 98 | 40 => 103 | n => n, fun | 23 => 36 | 25 => 3 | 3 => 3 | 32 => 102 | 22 => 36 | 0 => 0 | 44 => 34 | 46 => 136 | 4 => 4 | 36 => 128 | 35 => 127 | 41 => 133 | 5 => 5 | 9 => 9 | 53 => 154 | 57 => 158 | 63 => 162 | 64 => 68 | n => n, fun | n => n⟩
theorem Tryz.sortK : Go.Proofs.SlLaysM.n5 Tryz.prog Tryz.sortK_ren := {
  mixed := by kernel_rfl
  f5 := ⟨Tryz.f39.name, by decide, Tryz.func39.trans (congrArg some (by kernel_rfl))⟩
  f7 := ⟨Tryz.f54.name, by decide, Tryz.func54.trans (congrArg some (by kernel_rfl))⟩
  f8 := Tryz.func55.trans (congrArg some (by kernel_rfl))
  f10 := ⟨Tryz.f73.name, by decide, Tryz.func73.trans (congrArg some (by kernel_rfl))⟩
  f11 := ⟨Tryz.f74.name, by decide, Tryz.func74.trans (congrArg some (by kernel_rfl))⟩
  f12 := ⟨Tryz.f75.name, by decide, Tryz.func75.trans (congrArg some (by kernel_rfl))⟩
  f13 := ⟨Tryz.f76.name, by decide, Tryz.func76.trans (congrArg some (by kernel_rfl))⟩
  f14 := ⟨Tryz.f77.name, by decide, Tryz.func77.trans (congrArg some (by kernel_rfl))⟩
  f15 := ⟨Tryz.f78.name, by decide, Tryz.func78.trans (congrArg some (by kernel_rfl))⟩
  f16 := ⟨Tryz.f79.name, by decide, Tryz.func79.trans (congrArg some (by kernel_rfl))⟩
  f17 := ⟨Tryz.f80.name, by decide, Tryz.func80.trans (congrArg some (by kernel_rfl))⟩
  f18 := ⟨Tryz.f81.name, by decide, Tryz.func81.trans (congrArg some (by kernel_rfl))⟩
  f19 := Tryz.func82.trans (congrArg some (by kernel_rfl))
  f20 := Tryz.func83.trans (congrArg some (by kernel_rfl))
  f30 := ⟨Tryz.f93.name, by decide, Tryz.func93.trans (congrArg some (by kernel_rfl))⟩
  f31 := Tryz.func94.trans (congrArg some (by kernel_rfl))
  f32 := Tryz.func95.trans (congrArg some (by kernel_rfl))
  f33 := ⟨Tryz.f96.name, by decide, Tryz.func96.trans (congrArg some (by kernel_rfl))⟩
  f34 := ⟨Tryz.f97.name, by decide, Tryz.func97.trans (congrArg some (by kernel_rfl))⟩
  f35 := ⟨Tryz.f98.name, by decide, Tryz.func98.trans (congrArg some (by kernel_rfl))⟩
  f40 := ⟨Tryz.f103.name, by decide, Tryz.func103.trans (congrArg some (by kernel_rfl))⟩
  t0 := Tryz.underlying0
  a0 := Tryz.isAgg0
  z0 := Tryz.sizeOf0
  v0 := Tryz.zeroValue0
  t3 := Tryz.underlying3
  a3 := Tryz.isAgg3
  z3 := Tryz.sizeOf3
  v3 := Tryz.zeroValue3
  t4 := Tryz.underlying4
  a4 := Tryz.isAgg4
  z4 := Tryz.sizeOf4
  v4 := Tryz.zeroValue4
  t5 := Tryz.underlying5
  a5 := Tryz.isAgg5
  z5 := Tryz.sizeOf5
  v5 := Tryz.zeroValue5
  t9 := Tryz.underlying9
  a9 := Tryz.isAgg9
  z9 := Tryz.sizeOf9
  v9 := Tryz.zeroValue9
  t22 := Tryz.underlying36
  a22 := Tryz.isAgg36
  z22 := Tryz.sizeOf36
  v22 := Tryz.zeroValue36
  t23 := Tryz.underlying36
  a23 := Tryz.isAgg36
  z23 := Tryz.sizeOf36
  v23 := Tryz.zeroValue36
  t25 := Tryz.underlying3
  a25 := Tryz.isAgg3
  z25 := Tryz.sizeOf3
  v25 := Tryz.zeroValue3
  t32 := Tryz.underlying102
  a32 := Tryz.isAgg102
  z32 := Tryz.sizeOf102
  v32 := Tryz.zeroValue102
  t35 := Tryz.underlying127
  a35 := Tryz.isAgg127
  z35 := Tryz.sizeOf127
  v35 := Tryz.zeroValue127
  t36 := Tryz.underlying128
  a36 := Tryz.isAgg128
  z36 := Tryz.sizeOf128
  v36 := Tryz.zeroValue128
  t41 := Tryz.underlying133
  a41 := Tryz.isAgg133
  z41 := Tryz.sizeOf133
  v41 := Tryz.zeroValue133
  t44 := Tryz.underlying34
  a44 := Tryz.isAgg34
  z44 := Tryz.sizeOf34
  v44 := Tryz.zeroValue34
  t46 := Tryz.underlying136
  a46 := Tryz.isAgg136
  z46 := Tryz.sizeOf136
  v46 := Tryz.zeroValue136
  t53 := Tryz.underlying154
  a53 := Tryz.isAgg154
  z53 := Tryz.sizeOf154
  v53 := Tryz.zeroValue154
  t57 := Tryz.underlying158
  a57 := Tryz.isAgg158
  z57 := Tryz.sizeOf158
  v57 := Tryz.zeroValue158
  t63 := Tryz.underlying162
  a63 := Tryz.isAgg162
  z63 := Tryz.sizeOf162
  v63 := Tryz.zeroValue162
  t64 := Tryz.underlying68
  a64 := Tryz.isAgg68
  z64 := Tryz.sizeOf68
  v64 := Tryz.zeroValue68 }
def Tryz.compactK_ren : Go.Shelf.Ren := ⟨fun | 20 => 40 | n => n, fun | 22 => 36 | 3 => 3 | 4 => 4 | 0 => 0 | n => n, fun | n => n⟩
theorem Tryz.compactK : Go.Proofs.Lays2.n20 Tryz.prog Tryz.compactK_ren := {
  mixed := by kernel_rfl
  f20 := Tryz.func40.trans (congrArg some (by kernel_rfl))
  t0 := Tryz.underlying0
  a0 := Tryz.isAgg0
  z0 := Tryz.sizeOf0
  v0 := Tryz.zeroValue0
  t3 := Tryz.underlying3
  a3 := Tryz.isAgg3
  z3 := Tryz.sizeOf3
  v3 := Tryz.zeroValue3
  t4 := Tryz.underlying4
  a4 := Tryz.isAgg4
  z4 := Tryz.sizeOf4
  v4 := Tryz.zeroValue4
  t22 := Tryz.underlying36
  a22 := Tryz.isAgg36
  z22 := Tryz.sizeOf36
  v22 := Tryz.zeroValue36
  i3 := by kernel_rfl }
end Go.Proofs

/- KeepQ -/
/- Numbers appended, sorted and made one each: rows of the call's own. -/
namespace Go.Proofs.YtlmnmncdoiealaaGreatDoor
open Go.RowKit Go.Deep Go.Sort Go.Shelf
set_option linter.unusedVariables false
set_option linter.unusedSimpArgs false

/-- each once -/
def uniqI (l : List Int) : List Int := Lib.compact (l.mergeSort fun x y => decide (x ≤ y))
theorem mem_compactUpTo (d : Array Int) : ∀ m j, j < m → d[j]! ∈ Lib.compactUpTo d m := by
  intro m
  induction m with
  | zero => intro j h; omega
  | succ m ih =>
    intro j hj
    rw [Lib.compactUpTo_succ, List.mem_append]
    by_cases h : j < m
    · exact .inl (ih j h)
    · obtain rfl : j = m := by omega
      cases hk : Lib.keeps d j with
      | true => exact .inr (by simp)
      | false =>
        left
        unfold Lib.keeps at hk
        have h2 := of_decide_eq_false hk
        have h3 : j ≠ 0 := fun e => h2 (.inl e)
        have h4 : d[j]! = d[j - 1]! := Classical.byContradiction fun e => h2 (.inr e)
        rw [h4]
        exact ih (j - 1) (by omega)
theorem mem_compact_of {zs : List Int} {x : Int} (h : x ∈ zs) : x ∈ Lib.compact zs := by
  obtain ⟨j, hj, rfl⟩ := List.mem_iff_getElem.1 h
  have := mem_compactUpTo zs.toArray zs.length j hj
  unfold Lib.compact
  simpa [getElem!_pos, hj] using this
theorem of_mem_compact {zs : List Int} {x : Int} (h : x ∈ Lib.compact zs) : x ∈ zs := by
  unfold Lib.compact Lib.compactUpTo at h
  obtain ⟨i, hi, rfl⟩ := List.mem_map.1 h
  have hi' : i < zs.length := List.mem_range.1 (List.mem_filter.1 hi).1
  simp [getElem!_pos, hi']
theorem mem_uniqI {l : List Int} {x : Int} : x ∈ uniqI l ↔ x ∈ l :=
  ⟨fun h => (List.mergeSort_perm l _).subset (of_mem_compact h), fun h => mem_compact_of ((List.mergeSort_perm l _).symm.subset h)⟩
theorem uniqI_length_le (l : List Int) : (uniqI l).length ≤ l.length := by
  have := Lib.compact_length_le (l.mergeSort fun x y => decide (x ≤ y))
  rw [List.length_mergeSort] at this
  exact this
theorem IOwn.nil (w : World) (B : Nat) : IOwn w B [] (.slice none 0 0) := ⟨none, 0, rfl, World.ownsRow_nil _ _ _ _⟩
theorem IOwn.nilK {w : World} {B : Nat} {l : List Int} {A : Option Addr} {n cap : Nat} (h : IOwn w B l (.slice A n cap)) : A = none → cap = 0 := fun ha => by
  obtain ⟨A', c', e, hl, ⟨h4, h5⟩ | ⟨g, cap', cur, h4, _⟩⟩ := h
  · injection h4 with e1 e2 e3
  · injection h4 with e1 e2 e3
    rw [ha] at e1
    cases e1
theorem IOwn.typed {w : World} {B : Nat} {l : List Int} {v : Value} (h : IOwn w B l v) : ∀ g, v.ownBlock = some g → ∃ cs, w.heap[g]? = some (.cells cs 3 (0, 0)) := fun g hg => by
  obtain ⟨A, cap, rfl, ho⟩ := h
  exact owns_typed ho hg
set_option maxRecDepth 100000 in
theorem wpList_append_i {w : World} {ops : Array Oper} {rest : List Oper} {o : Oper} {a : Act} {Q : Exit → Act → World → Prop} (hgd : o.guard = none) (s x : Operand)
    (ho : o.op = .call { callee := .builtin .append, args := #[s, x], argTypes := #[36, 36] }) (B : Nat) (l1 : List Int) (v : Value) (hs : a.eval s = v) (h1 : IOwn w B l1 v)
    (A2 : Option Addr) (m c : Nat) (l2 : List Int) (hx : a.eval x = .slice A2 m c) (V2 : Reads w A2 m c (fun i => .int .i64 (l2.getD i 0))) (hl2 : m = l2.length) (hcn : A2 = none → c = 0) (hb : l1.length + m ≤ 1000000) (hbase : B ≤ w.heap.size)
    (h : ∀ v' w', IOwn w' B (l1 ++ l2) v' → Keeps (fun k => v.ownBlock = some k) w w' → wpList Tryz.prog ops Q rest (a.put o.dst v') w') : wpList Tryz.prog ops Q (o :: rest) a w := by
  obtain ⟨i0, hi, hz0, hz1, hz2⟩ := info_parts Tryz.info_i
  obtain ⟨A1, c1, rfl, ho1⟩ := h1
  cases A2 with
  | none =>
    have hcap : c = 0 := hcn rfl
    have hm : m = 0 := by have := V2.1; omega
    subst hcap hm
    obtain rfl : l2 = [] := List.eq_nil_of_length_eq_zero hl2.symm
    refine Lib.wpList_append_run w hgd s x _ _ ho _ _ hs hx _ _ (run_append_owned_none w B 36 o.type 3 i0 1 Tryz.underlying36 hi _ _ _ ho1) ?_
    exact h _ _ (by rw [List.append_nil]; exact ⟨A1, c1, rfl, ho1⟩) (Keeps.refl _ _)
  | some ad =>
    refine wpList_append_mine hgd s x 36 ho B 3 i0 _ 1 8 Tryz.underlying36 hi hz0 hz1 hz2 rfl (by decide) (.slice A1 l1.length c1) l1.length (intL l1) hs ho1 ad m c (intL l2) hx (by unfold intL; rw [List.length_map]; omega) (V2.at_int hl2 rfl) (intL_one l2) (by unfold maxLen; omega) (by omega) hbase ?_
    intro v' w' hown hgrow hmv
    obtain ⟨A', cap', rfl⟩ := owns_slice hown
    refine h _ _ ⟨A', cap', by rw [List.length_append, hl2], ?_⟩ ((Keeps.refl _ w).grown hgrow (fun k hk _ => hk))
    rw [List.map_append, List.length_append, ← hl2]
    exact hown
theorem sortI_any (B : Nat) (l : List Int) (A : Option Addr) (n c : Nat) (w : World) (h : IOwn w B l (.slice A n c)) (hn : n ≤ 1000000) :
    Calls Tryz.prog 39 #[.slice A n c] w fun e w' => e = .returned (.tuple #[]) ∧ IOwn w' B (l.mergeSort fun x y => decide (x ≤ y)) (.slice A n c) ∧ Keeps (fun b => (Value.slice A n c).ownBlock = some b) w w' := by
  obtain ⟨A1, c1, e, ho⟩ := h
  injection e with e1 e2 e3
  subst e1 e2 e3
  obtain ⟨hl, ⟨h4, h5⟩ | ⟨g, cap', cur, h4, h5, h6, h7, h8, h9, h10⟩⟩ := id ho
  · injection h4 with e1 e2 e3
    subst e1 e3
    obtain rfl : l = [] := List.eq_nil_of_length_eq_zero e2
    refine (AnyM.slices_Sort_int_none Tryz.sortK none 0 w).mono ?_
    rintro e w' ⟨rfl, rfl⟩
    exact ⟨rfl, by simpa using IOwn.nil _ _, Keeps.refl _ _⟩
  · injection h4 with e1 e2 e3
    subst e1 e3
    rw [Nat.mul_one] at h10
    have hH := holds_of_blockI h6 h10
    refine (AnyM.slices_Sort_int Tryz.sortK g 0 c l w hH (Array.getElem?_eq_some_iff.1 h6).1 (by omega)).mono ?_
    rintro e w' ⟨rfl, q, os, rfl⟩
    have hlm : (l.mergeSort fun x y => decide (x ≤ y)).length = l.length := List.length_mergeSort l
    refine ⟨rfl, ⟨some ⟨g, 0, none⟩, c, by rw [hlm], ?_⟩, (Keeps.refl _ w).grown (grownBy_sortedI _) (fun k hk _ => hk)⟩
    rw [hlm]
    exact ownsRow_sortedI hlm h5 h6 h7 h8 h9
theorem compactI_any (B : Nat) (l : List Int) (A : Option Addr) (n c : Nat) (w : World) (h : IOwn w B l (.slice A n c)) (hn : n ≤ 1000000) :
    Calls Tryz.prog 40 #[.slice A n c] w fun e w' => ∃ v, e = .returned v ∧ IOwn w' B (Lib.compact l) v ∧ Keeps (fun b => (Value.slice A n c).ownBlock = some b) w w' := by
  obtain ⟨A1, c1, e, ho⟩ := h
  injection e with e1 e2 e3
  subst e1 e2 e3
  obtain ⟨hl, ⟨h4, h5⟩ | ⟨g, cap', cur, h4, h5, h6, h7, h8, h9, h10⟩⟩ := id ho
  · injection h4 with e1 e2 e3
    subst e1 e3
    obtain rfl : l = [] := List.eq_nil_of_length_eq_zero e2
    refine Calls.mono (calls_of_every_depth fun D => AnyS.slices_Compact_int_empty_in Tryz.compactK D none 0 w) ?_
    rintro e w' ⟨rfl, rfl⟩
    exact ⟨_, rfl, by simpa [Lib.compact, Lib.compactUpTo] using IOwn.nil _ _, Keeps.refl _ _⟩
  · injection h4 with e1 e2 e3
    subst e1 e3
    rw [Nat.mul_one] at h10
    have hH := holds_of_blockI h6 h10
    refine Calls.mono (calls_of_every_depth fun D => AnyS.slices_Compact_int_in Tryz.compactK D g 0 c l w hH (by omega) h7) ?_
    rintro e w' ⟨rfl, q, rfl⟩
    have hle := Lib.compact_length_le l
    have hc := Lib.ownsRow_putRow (q := q) (k := (Lib.compact l).length) (ys := Lib.compact l ++ List.replicate (l.length - (Lib.compact l).length) 0) ho (by simp; omega) hle
    rw [List.take_left] at hc
    refine ⟨_, rfl, ⟨_, _, rfl, hc⟩, ⟨rfl, rfl, rfl, by simp [putRow, mapBlock, Sort.ahead], fun k hk hne => ?_⟩⟩
    have : g ≠ k := fun e => hne (by rw [e]; rfl)
    simp [putRow, mapBlock, Sort.ahead, Array.getElem?_modify, this]
end Go.Proofs.YtlmnmncdoiealaaGreatDoor
