import Derived.Test.YtlbdkcnbgdmpaaaGreatDoorOnez0
import Derived.Test.YtlbdkcnbgdmpaaaGreatDoorOnez1
import Derived.Great.BuildSlice
import Derived.Test.YtlbdkcnbgdmpaaaGreatDoorOnez15
import Derived.Test.YtlbdkcnbgdmpaaaGreatDoorOnez7

/- RefRows -/
/- The walk of the reference's table of operations. -/
namespace Go.Proofs.YtlbdkcnbgdmpaaaGreatDoor
open Go.RowKit Go.Deep
set_option linter.unusedVariables false
namespace Cd
/-- a row as it lies -/
def rowC (op : Nat) : List Value := [.string ⟨(row op).name.toArray⟩, .int .i64 (row op).major, .int .i64 (row op).minor, .string ⟨(row op).fields.toArray⟩, .string ⟨(row op).order.toArray⟩, .string ⟨(kindS (row op).kd).toArray⟩]
def table : List Value := (List.range 54).flatMap rowC
theorem table_at : ∀ op : Fin 54, ∀ j : Fin 6, table[op.val * 6 + j.val]? = (rowC op.val)[j.val]? := by
  have h : ∀ op, op < 54 → (table.drop (op * 6)).take 6 = rowC op := by
    intro op hop
    have : ∀ o : Fin 54, (table.drop (o.val * 6)).take 6 = rowC o.val := by
      intro o
      unfold table
      have h6 : ∀ k, (rowC k).length = 6 := fun _ => rfl
      have hl : ∀ n, ((List.range n).flatMap rowC).length = n * 6 := by
        intro n
        induction n with
        | zero => rfl
        | succ n ih => rw [List.range_succ, List.flatMap_append, List.length_append, ih]; simp [rowC]; omega
      have hs : List.range 54 = List.range o.val ++ (List.range' o.val (54 - o.val)) := by
        have ho := o.isLt
        apply List.ext_getElem
        · simp <;> omega
        · intro i h1 h2
          by_cases h : i < o.val
          · rw [List.getElem_append_left (by simpa using h)]; simp
          · rw [List.getElem_append_right (by simpa using h)]; simp <;> omega
      rw [hs, List.flatMap_append, List.drop_append_of_le_length (by rw [hl]; omega), List.drop_of_length_le (by rw [hl]; omega), List.nil_append, show 54 - o.val = (53 - o.val) + 1 by omega, List.range'_succ, List.flatMap_cons, List.take_append_of_le_length (by rw [h6]; omega)]
      rfl
    exact this ⟨op, hop⟩
  intro op j
  rw [← h op.val op.isLt, List.getElem?_take_of_lt j.isLt, List.getElem?_drop]
end Cd
theorem wpList_buildRows {P : Program} {ops : Array Oper} {rest : List Oper} {o : Oper} {a : Act} {w : World} {Q : Exit → Act → World → Prop} (hg : o.guard = none) (t e : TypeId) (len : Nat) (parts : Array (Nat × Operand)) (ho : o.op = .buildSlice t len parts)
    (cells zc : Array Value) (n : Nat) (hu : P.underlying t = some (.slice e)) (hsz : (P.info? e).map (·.size) = some n) (hz : ((P.info? e).bind (·.zero)).map (·.cells) = some zc) (hsmall : ¬ len * n > 2 ^ 24) (hpos : ¬ len * n = 0)
    (hf : Instr.fill (fun i => some (i * n, n)) ((Array.range (len * n)).map (zc[· % zc.size]!)) (parts.map fun (i, x) => (i, a.eval x)).toList = some cells)
    (h : wpList P ops Q rest (a.put o.dst (.slice (some ⟨w.heap.size, 0, none⟩) len len)) (w.alloc (.cells cells e))) : wpList P ops Q (o :: rest) a w := by
  cases hie : P.info? e with
  | none => simp [hie] at hsz
  | some ie =>
    simp only [hie, Option.map_some, Option.some.injEq, Option.bind_some] at hsz hz
    obtain ⟨z, hz1, hz2⟩ := Option.map_eq_some_iff.1 hz
    subst hsz hz2
    exact wpList_buildSlice hg t e len parts ho cells ie z hu hie hz1 hsmall hpos hf h
set_option maxRecDepth 100000 in
set_option maxHeartbeats 4000000 in
theorem rows_any (w : World) :
    Calls Tryz.prog 64 #[] w fun e w' => e = .returned (.slice (some ⟨w.heap.size, 0, none⟩) 54 54) ∧ w'.heap[w.heap.size]? = some (.cells Cd.table.toArray 109 (0, 0)) ∧ Keeps (fun _ => False) w w' := by
  have HB := Lib.hid (blk_alloc_new w (.cells Cd.table.toArray 109 (0, 0)))
  have HK := Lib.hid ((Keeps.refl (fun _ => False) w).alloc (.cells Cd.table.toArray 109 (0, 0)))
  go_enter Tryz.func64, Tryz.ntmps64
  go_wp2_with (with_reducible refine wpList_buildRows rfl 105 109 54 _ rfl ?tb ?zc 6 Tryz.underlying105 ?c1 ?c2 ?c3 ?c4 ?c5 ?c6)
  case tb => exact Cd.table.toArray
  case zc => exact #[.string ⟨#[]⟩, .int .i64 0, .int .i64 0, .string ⟨#[]⟩, .string ⟨#[]⟩, .string ⟨#[]⟩]
  case c1 => kernel_rfl
  case c2 => kernel_rfl
  case c3 => decide
  case c4 => decide
  case c5 => kernel_rfl
  generalize Cd.table.toArray = tb at *
  go_wp2_with fail
  go_ret
  exact ⟨rfl, HB.out, HK.out⟩
end Go.Proofs.YtlbdkcnbgdmpaaaGreatDoor

/- RefDec0 -/
/- The reference's matches at any row of the table; the walk of DecodeOf up to the operation that is found. -/
namespace Go.Proofs.YtlbdkcnbgdmpaaaGreatDoor
open Go.RowKit Go.Deep
set_option linter.unusedVariables false
namespace Cd
theorem cl_0 {ma mi : Nat} (h : cl ma mi = 0) : ma = 0 := by
  unfold cl at h
  split at h
  · assumption
  · split at h
    · split at h <;> omega
    · omega
theorem cl_1 {ma mi : Nat} (h : cl ma mi = 1) : ma = 16 ∧ mi = 16 := by
  unfold cl at h
  split at h
  · omega
  · split at h
    · split at h
      · exact ⟨by assumption, by assumption⟩
      · omega
    · omega
theorem cl_2 {ma mi : Nat} (h : cl ma mi = 2) : ma = 16 ∧ ¬ mi = 16 := by
  unfold cl at h
  split at h
  · omega
  · split at h
    · split at h
      · omega
      · exact ⟨by assumption, by assumption⟩
    · omega
theorem cl_3 {ma mi : Nat} (h : cl ma mi = 3) : ¬ ma = 0 ∧ ¬ ma = 16 := by
  unfold cl at h
  split at h
  · omega
  · split at h
    · split at h <;> omega
    · exact ⟨by assumption, by assumption⟩
end Cd
theorem matches_any (v : Int) (hv : 0 ≤ v ∧ v < 4294967296) (op : Nat) (h1 : 1 ≤ op) (h2 : op < 54) (b : Bool) (hb : Cd.isRow v (Cd.row op) = b) (w : World) :
    Calls Tryz.prog 65 #[.int .u32 v, .agg (Cd.rowC op).toArray] w fun e w' => e = .returned (.bool b) ∧ Keeps (fun _ => False) w w' := by
  have hc := Cd.cls_are ⟨op, h2⟩ h1
  subst hb
  unfold Cd.rowC
  simp only at hc
  generalize Cd.row op = r at *
  obtain ⟨nm, ma, mi, fl, od, kk⟩ := r
  simp only at hc
  show Calls _ _ #[.int .u32 v, .agg #[.string ⟨nm.toArray⟩, .int .i64 ma, .int .i64 mi, .string ⟨fl.toArray⟩, .string ⟨od.toArray⟩, .string ⟨(Cd.kindS kk).toArray⟩]] w _
  simp only [Cd.cls, List.mem_cons, Prod.mk.injEq, List.not_mem_nil, or_false] at hc
  rcases hc with ⟨rfl, hc⟩ | ⟨rfl, hc⟩ | ⟨rfl, hc⟩ | ⟨rfl, hc⟩ | ⟨rfl, hc⟩ | ⟨rfl, hc⟩ | ⟨rfl, hc⟩ | ⟨rfl, hc⟩ | ⟨rfl, hc⟩ | ⟨rfl, hc⟩ | ⟨rfl, hc⟩ | ⟨rfl, hc⟩ | ⟨rfl, hc⟩
  · obtain rfl := Cd.cl_0 hc
    exact matches_0 v hv nm od mi kk _ _ _ _ _ _ _ (Lib.hid rfl) (Lib.hid rfl) (Lib.hid rfl) (Lib.hid rfl) (Lib.hid rfl) (Lib.hid rfl) w
  · obtain rfl := Cd.cl_0 hc
    exact matches_1 v hv nm od mi kk _ _ _ _ _ _ _ (Lib.hid rfl) (Lib.hid rfl) (Lib.hid rfl) (Lib.hid rfl) (Lib.hid rfl) (Lib.hid rfl) w
  · obtain rfl := Cd.cl_0 hc
    exact matches_2 v hv nm od mi kk _ _ _ _ _ _ _ (Lib.hid rfl) (Lib.hid rfl) (Lib.hid rfl) (Lib.hid rfl) (Lib.hid rfl) (Lib.hid rfl) w
  · obtain rfl := Cd.cl_0 hc
    exact matches_3 v hv nm od mi kk _ _ _ _ _ _ _ (Lib.hid rfl) (Lib.hid rfl) (Lib.hid rfl) (Lib.hid rfl) (Lib.hid rfl) (Lib.hid rfl) w
  · obtain rfl := Cd.cl_0 hc
    exact matches_4 v hv nm od mi kk _ _ _ _ _ _ _ (Lib.hid rfl) (Lib.hid rfl) (Lib.hid rfl) (Lib.hid rfl) (Lib.hid rfl) (Lib.hid rfl) w
  · obtain rfl := Cd.cl_0 hc
    exact matches_5 v hv nm od mi kk _ _ _ _ _ _ _ (Lib.hid rfl) (Lib.hid rfl) (Lib.hid rfl) (Lib.hid rfl) (Lib.hid rfl) (Lib.hid rfl) w
  · obtain rfl := Cd.cl_0 hc
    exact matches_6 v hv nm od mi kk _ _ _ _ _ _ _ (Lib.hid rfl) (Lib.hid rfl) (Lib.hid rfl) (Lib.hid rfl) (Lib.hid rfl) (Lib.hid rfl) w
  · obtain ⟨a, b⟩ := Cd.cl_3 hc
    exact matches_7 v hv nm od ma mi a b kk _ _ _ _ _ _ _ (Lib.hid rfl) (Lib.hid rfl) (Lib.hid rfl) (Lib.hid rfl) (Lib.hid rfl) (Lib.hid rfl) w
  · obtain ⟨a, b⟩ := Cd.cl_3 hc
    exact matches_8 v hv nm od ma mi a b kk _ _ _ _ _ _ _ (Lib.hid rfl) (Lib.hid rfl) (Lib.hid rfl) (Lib.hid rfl) (Lib.hid rfl) (Lib.hid rfl) w
  · obtain ⟨a, b⟩ := Cd.cl_3 hc
    exact matches_9 v hv nm od ma mi a b kk _ _ _ _ _ _ _ (Lib.hid rfl) (Lib.hid rfl) (Lib.hid rfl) (Lib.hid rfl) (Lib.hid rfl) (Lib.hid rfl) w
  · obtain ⟨a, b⟩ := Cd.cl_3 hc
    exact matches_10 v hv nm od ma mi a b kk _ _ _ _ _ _ _ (Lib.hid rfl) (Lib.hid rfl) (Lib.hid rfl) (Lib.hid rfl) (Lib.hid rfl) (Lib.hid rfl) w
  · obtain ⟨rfl, b⟩ := Cd.cl_2 hc
    exact matches_11 v hv nm od mi b kk _ _ _ _ _ _ _ (Lib.hid rfl) (Lib.hid rfl) (Lib.hid rfl) (Lib.hid rfl) (Lib.hid rfl) (Lib.hid rfl) w
  · obtain ⟨rfl, rfl⟩ := Cd.cl_1 hc
    exact matches_12 v hv nm od kk _ _ _ _ _ _ _ (Lib.hid rfl) (Lib.hid rfl) (Lib.hid rfl) (Lib.hid rfl) (Lib.hid rfl) (Lib.hid rfl) w
/-- a row's cells as they lie -/
theorem row_cells {w : World} {g : Nat} (h : w.heap[g]? = some (.cells Cd.table.toArray 109 (0, 0))) (op : Nat) (hop : op < 54) (j : Nat) (hj : j < 6) (x : Value) (hx : (Cd.rowC op)[j]? = some x) : w.cell? ⟨g, op * 6 + j, none⟩ = some x := by
  unfold World.cell?
  rw [h]
  show Cd.table.toArray[op * 6 + j]? = some x
  rw [List.getElem?_toArray, Cd.table_at ⟨op, hop⟩ ⟨j, hj⟩]
  exact hx
end Go.Proofs.YtlbdkcnbgdmpaaaGreatDoor

/- RefDec -/
/- The walk of the reference's DecodeOf. (Printed by gen/refdec.py.) -/
namespace Go.Proofs.YtlbdkcnbgdmpaaaGreatDoor
open Go.RowKit Go.Deep
set_option linter.unusedVariables false
set_option linter.unusedSimpArgs false
namespace Cd
theorem fls_are : ∀ o : Fin 54, 1 ≤ o.val → (row o.val).fields ∈ ([[84, 68, 97], [83, 84, 68], [83], [83, 68], [], [68], [83, 84], [106], [83, 84, 105], [83, 105], [84, 105], [84, 68]] : List (List UInt8)) := by decide +kernel
theorem find_yes {w : Int} {op : Nat} (h : op < 54) (hi : isRow w (row op) = true) : find w (54 - op) op = insOf op w := by rw [find_step w op h, if_pos hi]
theorem find_no {w : Int} {op : Nat} (h : op < 54) (hi : isRow w (row op) = false) : find w (54 - op) op = find w (54 - (op + 1)) (op + 1) := by rw [find_step w op h, if_neg (by rw [hi]; decide)]
end Cd
theorem size_ins : (Tryz.prog.info? 80).map (·.size) = some 5 := by kernel_rfl
theorem part_kk (v : Int) (u n : Nat) (c d k : Int) (hc : c = u) (hd : d = n) (hv : 0 ≤ v ∧ v < 4294967296) (hu : u < 32) (hn : n < 32) (hk : Cd.part v u n = k) (w : World) :
    Calls Tryz.prog 20 #[.int .u32 v, .int .i64 c, .int .i64 d] w fun e w' => e = .returned (.int .i64 k) ∧ w = w' := by
  subst hc hd
  exact part_k v u n k hv hu hn hk w
set_option maxRecDepth 100000 in
set_option maxHeartbeats 8000000 in
theorem decodeOf_any (v : Int) (hv : 0 ≤ v ∧ v < 4294967296) (w : World) :
    Calls Tryz.prog 41 #[.int .u32 v] w fun e w' => e = .returned (.agg (insC (Cd.decOf v))) ∧ Keeps (fun _ => False) w w' := by
  have HR2 := Lib.hid (blk_alloc_new w (.cells #[.int .i64 0, .int .i64 0, .int .i64 0, .int .i64 0, .int .u32 0] 80 (0, 0)))
  have HK0 := Lib.hid ((Keeps.refl (fun _ => False) w).alloc (.cells #[.int .i64 0, .int .i64 0, .int .i64 0, .int .i64 0, .int .u32 0] 80 (0, 0)))
  obtain ⟨rb, hrb⟩ : ∃ rb, w.heap.size = rb := ⟨_, rfl⟩
  have HRB := Lib.hid hrb
  rw [hrb] at HR2

  have hp83 := Cd.part_rng v 21 5
  obtain ⟨p83, e83⟩ : ∃ p, Cd.part v 21 5 = p := ⟨_, rfl⟩
  rw [e83] at hp83
  simp only [Int.reducePow] at hp83
  have E83 := Lib.hid e83
  clear e83
  have hp84 := Cd.part_rng v 16 5
  obtain ⟨p84, e84⟩ : ∃ p, Cd.part v 16 5 = p := ⟨_, rfl⟩
  rw [e84] at hp84
  simp only [Int.reducePow] at hp84
  have E84 := Lib.hid e84
  clear e84
  have hp68 := Cd.part_rng v 11 5
  obtain ⟨p68, e68⟩ : ∃ p, Cd.part v 11 5 = p := ⟨_, rfl⟩
  rw [e68] at hp68
  simp only [Int.reducePow] at hp68
  have E68 := Lib.hid e68
  clear e68
  have hp97 := Cd.part_rng v 6 5
  obtain ⟨p97, e97⟩ : ∃ p, Cd.part v 6 5 = p := ⟨_, rfl⟩
  rw [e97] at hp97
  simp only [Int.reducePow] at hp97
  have E97 := Lib.hid e97
  clear e97
  have hp105 := Cd.part_rng v 0 16
  obtain ⟨p105, e105⟩ : ∃ p, Cd.part v 0 16 = p := ⟨_, rfl⟩
  rw [e105] at hp105
  simp only [Int.reducePow] at hp105
  have E105 := Lib.hid e105
  clear e105
  have hp106 := Cd.part_rng v 0 26
  obtain ⟨p106, e106⟩ : ∃ p, Cd.part v 0 26 = p := ⟨_, rfl⟩
  rw [e106] at hp106
  simp only [Int.reducePow] at hp106
  have E106 := Lib.hid e106
  clear e106
  go_enter Tryz.func41, Tryz.ntmps41
  go_wp2_with fail
  refine (rows_any _).mono ?_
  rintro e w1 ⟨rfl, hT, hk1⟩
  have h2 := (Array.getElem?_eq_some_iff.1 HR2.out).1
  have hgb : (w.alloc (.cells #[.int .i64 0, .int .i64 0, .int .i64 0, .int .i64 0, .int .u32 0] 80 (0, 0))).heap.size = rb + 1 := by rw [nblk_alloc, hrb]
  rw [hgb] at hT
  have HRB1 := Lib.hid ((hk1.block rb h2 (fun h => h)).trans HR2.out)
  have HT := Lib.hid hT
  have HK1 := Lib.hid (HK0.out.trans hk1 (fun _ _ h => h))
  clear hT h2 HK0 HR2
  go_wp2_with fail
  clear hgb hk1 hrb
  go_loopw [4] (fun s4 wr => ∃ op : Nat, 1 ≤ op ∧ op ≤ 54 ∧ s4 = .int .i64 op ∧ Cd.find v (54 - op) op = Cd.decOf v ∧ Keeps (fun _ => False) w1 wr) (fun s4 _ => 54 - (intOf s4).toNat)
  case atStart => exact ⟨1, by omega, by omega, rfl, rfl, Keeps.refl _ _⟩
  case round =>
    obtain ⟨op, h1, h54, rfl, hf, hK⟩ := hrel
    have HF := Lib.hid hf
    have HK := Lib.hid hK
    clear hf hK
    by_cases hlt : op < 54
    · have r0 : wr.cell? ⟨rb + 1, op * 6, none⟩ = some (.string ⟨(Cd.row op).name.toArray⟩) := HK.out.cell' (row_cells HT.out op hlt 0 (by omega) _ rfl) (fun h => h)
      have r1 : wr.cell? ⟨rb + 1, op * 6 + 1, none⟩ = some (.int .i64 (Cd.row op).major) := HK.out.cell' (row_cells HT.out op hlt 1 (by omega) _ rfl) (fun h => h)
      have r2 : wr.cell? ⟨rb + 1, op * 6 + 2, none⟩ = some (.int .i64 (Cd.row op).minor) := HK.out.cell' (row_cells HT.out op hlt 2 (by omega) _ rfl) (fun h => h)
      have r3 : wr.cell? ⟨rb + 1, op * 6 + 3, none⟩ = some (.string ⟨(Cd.row op).fields.toArray⟩) := HK.out.cell' (row_cells HT.out op hlt 3 (by omega) _ rfl) (fun h => h)
      have r4 : wr.cell? ⟨rb + 1, op * 6 + 4, none⟩ = some (.string ⟨(Cd.row op).order.toArray⟩) := HK.out.cell' (row_cells HT.out op hlt 4 (by omega) _ rfl) (fun h => h)
      have r5 : wr.cell? ⟨rb + 1, op * 6 + 5, none⟩ = some (.string ⟨(Cd.kindS (Cd.row op).kd).toArray⟩) := HK.out.cell' (row_cells HT.out op hlt 5 (by omega) _ rfl) (fun h => h)
      have q1 : (0 : Int) ≤ (op : Int) := by omega
      have q2 : (op : Int) < 54 := by omega
      cases hb : Cd.isRow v (Cd.row op)
      · have HM := Lib.hid (matches_any v hv op h1 hlt false hb)
        have HN := Lib.hid ((Cd.find_no hlt hb).symm.trans HF.out)
        clear hb
        go_wp2_with fail
        refine (HM.out _).mono ?_
        rintro e w2 ⟨rfl, hk2⟩
        clear r0 r1 r2 r3 r4 r5
        go_wp2_with fail
        go_roundw
        case rel => exact ⟨op + 1, by omega, by omega, by go_num, HN.out, HK.out.trans hk2 (fun _ _ h => h)⟩
        case measure => simp [intOf]; omega
      · have HM := Lib.hid (matches_any v hv op h1 hlt true hb)
        have HN := Lib.hid (HF.out.symm.trans (Cd.find_yes hlt hb))
        clear hb
        go_wp2_with fail
        refine (HM.out _).mono ?_
        rintro e w2 ⟨rfl, hk2⟩
        have HK2 := Lib.hid (HK1.out.trans (HK.out.trans hk2 (fun _ _ h => h)) (fun _ _ h => h))
        have x3' := hk2.cell' r3 (fun h => h)
        have x3 := fun X => (World.cell?_alloc_lt w2 X _ (World.block_lt_of_cell? w2 _ x3')).trans x3'
        have HB2 := (((HK.out.trans hk2 (fun _ _ h => h)).block rb (Array.getElem?_eq_some_iff.1 HRB1.out).1 (fun h => h)).trans HRB1.out)
        have b0' : w2.cell? ⟨rb, 0, none⟩ = some (.int .i64 0) := by simp [World.cell?, HB2]
        have b1' : w2.cell? ⟨rb, 1, none⟩ = some (.int .i64 0) := by simp [World.cell?, HB2]
        have b2' : w2.cell? ⟨rb, 2, none⟩ = some (.int .i64 0) := by simp [World.cell?, HB2]
        have b3' : w2.cell? ⟨rb, 3, none⟩ = some (.int .i64 0) := by simp [World.cell?, HB2]
        have b4' : w2.cell? ⟨rb, 4, none⟩ = some (.int .u32 0) := by simp [World.cell?, HB2]
        have g0 := frozen_of_block HB2 0
        have g1 := frozen_of_block HB2 1
        have g2 := frozen_of_block HB2 2
        have g3 := frozen_of_block HB2 3
        have g4 := frozen_of_block HB2 4
        have n3 := World.new_ne w2 _ x3'
        have n0 := World.new_ne w2 _ b0'
        have b0 := fun X => (World.cell?_alloc_lt w2 X _ (World.block_lt_of_cell? w2 _ b0')).trans b0'
        have n1 := World.new_ne w2 _ b1'
        have b1 := fun X => (World.cell?_alloc_lt w2 X _ (World.block_lt_of_cell? w2 _ b1')).trans b1'
        have n2 := World.new_ne w2 _ b2'
        have b2 := fun X => (World.cell?_alloc_lt w2 X _ (World.block_lt_of_cell? w2 _ b2')).trans b2'
        have n33 := World.new_ne w2 _ b3'
        have b3 := fun X => (World.cell?_alloc_lt w2 X _ (World.block_lt_of_cell? w2 _ b3')).trans b3'
        have n4 := World.new_ne w2 _ b4'
        have b4 := fun X => (World.cell?_alloc_lt w2 X _ (World.block_lt_of_cell? w2 _ b4')).trans b4'
        have HBB := Lib.hid HB2
        have HLT := Lib.hid (Array.getElem?_eq_some_iff.1 HB2).1
        clear r0 r1 r2 r3 r4 r5 hk2 HB2 x3'
        have hrl := HLT.out
        have hfl := Cd.fls_are ⟨op, hlt⟩ h1
        simp only at hfl
        have HI : Hid (Cd.decOf v = ⟨op, if Cd.has (Cd.row op).fields 83 then p83 else 0, if Cd.has (Cd.row op).fields 84 then p84 else 0, if Cd.has (Cd.row op).fields 68 then p68 else 0, if Cd.has (Cd.row op).fields 97 then p97 else if Cd.has (Cd.row op).fields 105 then p105 else if Cd.has (Cd.row op).fields 106 then p106 else 0⟩) := Lib.hid (by
          rw [HN.out]
          unfold Cd.insOf
          rw [E83.out, E84.out, E68.out, E97.out, E105.out, E106.out])
        generalize (Cd.row op).fields = fl at *
        simp only [List.mem_cons, List.not_mem_nil, or_false] at hfl
        rcases hfl with rfl | rfl | rfl | rfl | rfl | rfl | rfl | rfl | rfl | rfl | rfl | rfl
        · replace HI : Hid (Cd.decOf v = ⟨op, 0, p84, p68, p97⟩) := HI
          have H5 := Lib.hid (set5 (a' := .int .i64 op) (b' := .int .i64 0) (c' := .int .i64 p84) (d' := .int .i64 p68) (e' := .int .u32 p97) HBB.out)
          go_wp2_with (first
        | (go_at_call 20; (with_reducible refine (part_kk v 21 5 21 5 p83 rfl rfl hv (by decide) (by decide) E83.out _).mono ?_); rintro e w' ⟨rfl, rfl⟩)
        | (go_at_call 20; (with_reducible refine (part_kk v 16 5 16 5 p84 rfl rfl hv (by decide) (by decide) E84.out _).mono ?_); rintro e w' ⟨rfl, rfl⟩)
        | (go_at_call 20; (with_reducible refine (part_kk v 11 5 11 5 p68 rfl rfl hv (by decide) (by decide) E68.out _).mono ?_); rintro e w' ⟨rfl, rfl⟩)
        | (go_at_call 20; (with_reducible refine (part_kk v 6 5 6 5 p97 rfl rfl hv (by decide) (by decide) E97.out _).mono ?_); rintro e w' ⟨rfl, rfl⟩)
        | (go_at_call 20; (with_reducible refine (part_kk v 0 16 0 16 p105 rfl rfl hv (by decide) (by decide) E105.out _).mono ?_); rintro e w' ⟨rfl, rfl⟩)
        | (go_at_call 20; (with_reducible refine (part_kk v 0 26 0 26 p106 rfl rfl hv (by decide) (by decide) E106.out _).mono ?_); rintro e w' ⟨rfl, rfl⟩)
        | (go_at_call 66; (with_reducible refine (isOf_n [84, 68, 97] 83 83 (by decide) (by decide) false (by decide) _).mono ?_); rintro e w' ⟨rfl, rfl⟩)
        | (go_at_call 66; (with_reducible refine (isOf_n [84, 68, 97] 84 84 (by decide) (by decide) true (by decide) _).mono ?_); rintro e w' ⟨rfl, rfl⟩)
        | (go_at_call 66; (with_reducible refine (isOf_n [84, 68, 97] 68 68 (by decide) (by decide) true (by decide) _).mono ?_); rintro e w' ⟨rfl, rfl⟩)
        | (go_at_call 66; (with_reducible refine (isOf_n [84, 68, 97] 97 97 (by decide) (by decide) true (by decide) _).mono ?_); rintro e w' ⟨rfl, rfl⟩)
        | (go_at_call 66; (with_reducible refine (isOf_n [84, 68, 97] 105 105 (by decide) (by decide) false (by decide) _).mono ?_); rintro e w' ⟨rfl, rfl⟩)
        | (go_at_call 66; (with_reducible refine (isOf_n [84, 68, 97] 106 106 (by decide) (by decide) false (by decide) _).mono ?_); rintro e w' ⟨rfl, rfl⟩))
          refine bodyPost_ret (results_cell_row rfl _ _ rb 80 #[.int .i64 op, .int .i64 0, .int .i64 p84, .int .i64 p68, .int .u32 p97] (0, 0) _ rfl ?_ Tryz.underlying80 rfl size_ins) rfl ⟨?_, ?_⟩
          · exact (((Keeps.refl (fun _ => False) _).alloc _).block rb (Array.getElem?_eq_some_iff.1 H5.out.1).1 (fun h => h)).trans H5.out.1
          · rw [HI.out]
            rfl
          · exact (HK2.out.trans H5.out.2 (fun j hj e => by have := HRB.out; omega)).alloc _
        · replace HI : Hid (Cd.decOf v = ⟨op, p83, p84, p68, 0⟩) := HI
          have H5 := Lib.hid (set5 (a' := .int .i64 op) (b' := .int .i64 p83) (c' := .int .i64 p84) (d' := .int .i64 p68) (e' := .int .u32 0) HBB.out)
          go_wp2_with (first
        | (go_at_call 20; (with_reducible refine (part_kk v 21 5 21 5 p83 rfl rfl hv (by decide) (by decide) E83.out _).mono ?_); rintro e w' ⟨rfl, rfl⟩)
        | (go_at_call 20; (with_reducible refine (part_kk v 16 5 16 5 p84 rfl rfl hv (by decide) (by decide) E84.out _).mono ?_); rintro e w' ⟨rfl, rfl⟩)
        | (go_at_call 20; (with_reducible refine (part_kk v 11 5 11 5 p68 rfl rfl hv (by decide) (by decide) E68.out _).mono ?_); rintro e w' ⟨rfl, rfl⟩)
        | (go_at_call 20; (with_reducible refine (part_kk v 6 5 6 5 p97 rfl rfl hv (by decide) (by decide) E97.out _).mono ?_); rintro e w' ⟨rfl, rfl⟩)
        | (go_at_call 20; (with_reducible refine (part_kk v 0 16 0 16 p105 rfl rfl hv (by decide) (by decide) E105.out _).mono ?_); rintro e w' ⟨rfl, rfl⟩)
        | (go_at_call 20; (with_reducible refine (part_kk v 0 26 0 26 p106 rfl rfl hv (by decide) (by decide) E106.out _).mono ?_); rintro e w' ⟨rfl, rfl⟩)
        | (go_at_call 66; (with_reducible refine (isOf_n [83, 84, 68] 83 83 (by decide) (by decide) true (by decide) _).mono ?_); rintro e w' ⟨rfl, rfl⟩)
        | (go_at_call 66; (with_reducible refine (isOf_n [83, 84, 68] 84 84 (by decide) (by decide) true (by decide) _).mono ?_); rintro e w' ⟨rfl, rfl⟩)
        | (go_at_call 66; (with_reducible refine (isOf_n [83, 84, 68] 68 68 (by decide) (by decide) true (by decide) _).mono ?_); rintro e w' ⟨rfl, rfl⟩)
        | (go_at_call 66; (with_reducible refine (isOf_n [83, 84, 68] 97 97 (by decide) (by decide) false (by decide) _).mono ?_); rintro e w' ⟨rfl, rfl⟩)
        | (go_at_call 66; (with_reducible refine (isOf_n [83, 84, 68] 105 105 (by decide) (by decide) false (by decide) _).mono ?_); rintro e w' ⟨rfl, rfl⟩)
        | (go_at_call 66; (with_reducible refine (isOf_n [83, 84, 68] 106 106 (by decide) (by decide) false (by decide) _).mono ?_); rintro e w' ⟨rfl, rfl⟩))
          refine bodyPost_ret (results_cell_row rfl _ _ rb 80 #[.int .i64 op, .int .i64 p83, .int .i64 p84, .int .i64 p68, .int .u32 0] (0, 0) _ rfl ?_ Tryz.underlying80 rfl size_ins) rfl ⟨?_, ?_⟩
          · exact (((Keeps.refl (fun _ => False) _).alloc _).block rb (Array.getElem?_eq_some_iff.1 H5.out.1).1 (fun h => h)).trans H5.out.1
          · rw [HI.out]
            rfl
          · exact (HK2.out.trans H5.out.2 (fun j hj e => by have := HRB.out; omega)).alloc _
        · replace HI : Hid (Cd.decOf v = ⟨op, p83, 0, 0, 0⟩) := HI
          have H5 := Lib.hid (set5 (a' := .int .i64 op) (b' := .int .i64 p83) (c' := .int .i64 0) (d' := .int .i64 0) (e' := .int .u32 0) HBB.out)
          go_wp2_with (first
        | (go_at_call 20; (with_reducible refine (part_kk v 21 5 21 5 p83 rfl rfl hv (by decide) (by decide) E83.out _).mono ?_); rintro e w' ⟨rfl, rfl⟩)
        | (go_at_call 20; (with_reducible refine (part_kk v 16 5 16 5 p84 rfl rfl hv (by decide) (by decide) E84.out _).mono ?_); rintro e w' ⟨rfl, rfl⟩)
        | (go_at_call 20; (with_reducible refine (part_kk v 11 5 11 5 p68 rfl rfl hv (by decide) (by decide) E68.out _).mono ?_); rintro e w' ⟨rfl, rfl⟩)
        | (go_at_call 20; (with_reducible refine (part_kk v 6 5 6 5 p97 rfl rfl hv (by decide) (by decide) E97.out _).mono ?_); rintro e w' ⟨rfl, rfl⟩)
        | (go_at_call 20; (with_reducible refine (part_kk v 0 16 0 16 p105 rfl rfl hv (by decide) (by decide) E105.out _).mono ?_); rintro e w' ⟨rfl, rfl⟩)
        | (go_at_call 20; (with_reducible refine (part_kk v 0 26 0 26 p106 rfl rfl hv (by decide) (by decide) E106.out _).mono ?_); rintro e w' ⟨rfl, rfl⟩)
        | (go_at_call 66; (with_reducible refine (isOf_n [83] 83 83 (by decide) (by decide) true (by decide) _).mono ?_); rintro e w' ⟨rfl, rfl⟩)
        | (go_at_call 66; (with_reducible refine (isOf_n [83] 84 84 (by decide) (by decide) false (by decide) _).mono ?_); rintro e w' ⟨rfl, rfl⟩)
        | (go_at_call 66; (with_reducible refine (isOf_n [83] 68 68 (by decide) (by decide) false (by decide) _).mono ?_); rintro e w' ⟨rfl, rfl⟩)
        | (go_at_call 66; (with_reducible refine (isOf_n [83] 97 97 (by decide) (by decide) false (by decide) _).mono ?_); rintro e w' ⟨rfl, rfl⟩)
        | (go_at_call 66; (with_reducible refine (isOf_n [83] 105 105 (by decide) (by decide) false (by decide) _).mono ?_); rintro e w' ⟨rfl, rfl⟩)
        | (go_at_call 66; (with_reducible refine (isOf_n [83] 106 106 (by decide) (by decide) false (by decide) _).mono ?_); rintro e w' ⟨rfl, rfl⟩))
          refine bodyPost_ret (results_cell_row rfl _ _ rb 80 #[.int .i64 op, .int .i64 p83, .int .i64 0, .int .i64 0, .int .u32 0] (0, 0) _ rfl ?_ Tryz.underlying80 rfl size_ins) rfl ⟨?_, ?_⟩
          · exact (((Keeps.refl (fun _ => False) _).alloc _).block rb (Array.getElem?_eq_some_iff.1 H5.out.1).1 (fun h => h)).trans H5.out.1
          · rw [HI.out]
            rfl
          · exact (HK2.out.trans H5.out.2 (fun j hj e => by have := HRB.out; omega)).alloc _
        · replace HI : Hid (Cd.decOf v = ⟨op, p83, 0, p68, 0⟩) := HI
          have H5 := Lib.hid (set5 (a' := .int .i64 op) (b' := .int .i64 p83) (c' := .int .i64 0) (d' := .int .i64 p68) (e' := .int .u32 0) HBB.out)
          go_wp2_with (first
        | (go_at_call 20; (with_reducible refine (part_kk v 21 5 21 5 p83 rfl rfl hv (by decide) (by decide) E83.out _).mono ?_); rintro e w' ⟨rfl, rfl⟩)
        | (go_at_call 20; (with_reducible refine (part_kk v 16 5 16 5 p84 rfl rfl hv (by decide) (by decide) E84.out _).mono ?_); rintro e w' ⟨rfl, rfl⟩)
        | (go_at_call 20; (with_reducible refine (part_kk v 11 5 11 5 p68 rfl rfl hv (by decide) (by decide) E68.out _).mono ?_); rintro e w' ⟨rfl, rfl⟩)
        | (go_at_call 20; (with_reducible refine (part_kk v 6 5 6 5 p97 rfl rfl hv (by decide) (by decide) E97.out _).mono ?_); rintro e w' ⟨rfl, rfl⟩)
        | (go_at_call 20; (with_reducible refine (part_kk v 0 16 0 16 p105 rfl rfl hv (by decide) (by decide) E105.out _).mono ?_); rintro e w' ⟨rfl, rfl⟩)
        | (go_at_call 20; (with_reducible refine (part_kk v 0 26 0 26 p106 rfl rfl hv (by decide) (by decide) E106.out _).mono ?_); rintro e w' ⟨rfl, rfl⟩)
        | (go_at_call 66; (with_reducible refine (isOf_n [83, 68] 83 83 (by decide) (by decide) true (by decide) _).mono ?_); rintro e w' ⟨rfl, rfl⟩)
        | (go_at_call 66; (with_reducible refine (isOf_n [83, 68] 84 84 (by decide) (by decide) false (by decide) _).mono ?_); rintro e w' ⟨rfl, rfl⟩)
        | (go_at_call 66; (with_reducible refine (isOf_n [83, 68] 68 68 (by decide) (by decide) true (by decide) _).mono ?_); rintro e w' ⟨rfl, rfl⟩)
        | (go_at_call 66; (with_reducible refine (isOf_n [83, 68] 97 97 (by decide) (by decide) false (by decide) _).mono ?_); rintro e w' ⟨rfl, rfl⟩)
        | (go_at_call 66; (with_reducible refine (isOf_n [83, 68] 105 105 (by decide) (by decide) false (by decide) _).mono ?_); rintro e w' ⟨rfl, rfl⟩)
        | (go_at_call 66; (with_reducible refine (isOf_n [83, 68] 106 106 (by decide) (by decide) false (by decide) _).mono ?_); rintro e w' ⟨rfl, rfl⟩))
          refine bodyPost_ret (results_cell_row rfl _ _ rb 80 #[.int .i64 op, .int .i64 p83, .int .i64 0, .int .i64 p68, .int .u32 0] (0, 0) _ rfl ?_ Tryz.underlying80 rfl size_ins) rfl ⟨?_, ?_⟩
          · exact (((Keeps.refl (fun _ => False) _).alloc _).block rb (Array.getElem?_eq_some_iff.1 H5.out.1).1 (fun h => h)).trans H5.out.1
          · rw [HI.out]
            rfl
          · exact (HK2.out.trans H5.out.2 (fun j hj e => by have := HRB.out; omega)).alloc _
        · replace HI : Hid (Cd.decOf v = ⟨op, 0, 0, 0, 0⟩) := HI
          have H5 := Lib.hid (set5 (a' := .int .i64 op) (b' := .int .i64 0) (c' := .int .i64 0) (d' := .int .i64 0) (e' := .int .u32 0) HBB.out)
          go_wp2_with (first
        | (go_at_call 20; (with_reducible refine (part_kk v 21 5 21 5 p83 rfl rfl hv (by decide) (by decide) E83.out _).mono ?_); rintro e w' ⟨rfl, rfl⟩)
        | (go_at_call 20; (with_reducible refine (part_kk v 16 5 16 5 p84 rfl rfl hv (by decide) (by decide) E84.out _).mono ?_); rintro e w' ⟨rfl, rfl⟩)
        | (go_at_call 20; (with_reducible refine (part_kk v 11 5 11 5 p68 rfl rfl hv (by decide) (by decide) E68.out _).mono ?_); rintro e w' ⟨rfl, rfl⟩)
        | (go_at_call 20; (with_reducible refine (part_kk v 6 5 6 5 p97 rfl rfl hv (by decide) (by decide) E97.out _).mono ?_); rintro e w' ⟨rfl, rfl⟩)
        | (go_at_call 20; (with_reducible refine (part_kk v 0 16 0 16 p105 rfl rfl hv (by decide) (by decide) E105.out _).mono ?_); rintro e w' ⟨rfl, rfl⟩)
        | (go_at_call 20; (with_reducible refine (part_kk v 0 26 0 26 p106 rfl rfl hv (by decide) (by decide) E106.out _).mono ?_); rintro e w' ⟨rfl, rfl⟩)
        | (go_at_call 66; (with_reducible refine (isOf_n [] 83 83 (by decide) (by decide) false (by decide) _).mono ?_); rintro e w' ⟨rfl, rfl⟩)
        | (go_at_call 66; (with_reducible refine (isOf_n [] 84 84 (by decide) (by decide) false (by decide) _).mono ?_); rintro e w' ⟨rfl, rfl⟩)
        | (go_at_call 66; (with_reducible refine (isOf_n [] 68 68 (by decide) (by decide) false (by decide) _).mono ?_); rintro e w' ⟨rfl, rfl⟩)
        | (go_at_call 66; (with_reducible refine (isOf_n [] 97 97 (by decide) (by decide) false (by decide) _).mono ?_); rintro e w' ⟨rfl, rfl⟩)
        | (go_at_call 66; (with_reducible refine (isOf_n [] 105 105 (by decide) (by decide) false (by decide) _).mono ?_); rintro e w' ⟨rfl, rfl⟩)
        | (go_at_call 66; (with_reducible refine (isOf_n [] 106 106 (by decide) (by decide) false (by decide) _).mono ?_); rintro e w' ⟨rfl, rfl⟩))
          refine bodyPost_ret (results_cell_row rfl _ _ rb 80 #[.int .i64 op, .int .i64 0, .int .i64 0, .int .i64 0, .int .u32 0] (0, 0) _ rfl ?_ Tryz.underlying80 rfl size_ins) rfl ⟨?_, ?_⟩
          · exact (((Keeps.refl (fun _ => False) _).alloc _).block rb (Array.getElem?_eq_some_iff.1 H5.out.1).1 (fun h => h)).trans H5.out.1
          · rw [HI.out]
            rfl
          · exact (HK2.out.trans H5.out.2 (fun j hj e => by have := HRB.out; omega)).alloc _
        · replace HI : Hid (Cd.decOf v = ⟨op, 0, 0, p68, 0⟩) := HI
          have H5 := Lib.hid (set5 (a' := .int .i64 op) (b' := .int .i64 0) (c' := .int .i64 0) (d' := .int .i64 p68) (e' := .int .u32 0) HBB.out)
          go_wp2_with (first
        | (go_at_call 20; (with_reducible refine (part_kk v 21 5 21 5 p83 rfl rfl hv (by decide) (by decide) E83.out _).mono ?_); rintro e w' ⟨rfl, rfl⟩)
        | (go_at_call 20; (with_reducible refine (part_kk v 16 5 16 5 p84 rfl rfl hv (by decide) (by decide) E84.out _).mono ?_); rintro e w' ⟨rfl, rfl⟩)
        | (go_at_call 20; (with_reducible refine (part_kk v 11 5 11 5 p68 rfl rfl hv (by decide) (by decide) E68.out _).mono ?_); rintro e w' ⟨rfl, rfl⟩)
        | (go_at_call 20; (with_reducible refine (part_kk v 6 5 6 5 p97 rfl rfl hv (by decide) (by decide) E97.out _).mono ?_); rintro e w' ⟨rfl, rfl⟩)
        | (go_at_call 20; (with_reducible refine (part_kk v 0 16 0 16 p105 rfl rfl hv (by decide) (by decide) E105.out _).mono ?_); rintro e w' ⟨rfl, rfl⟩)
        | (go_at_call 20; (with_reducible refine (part_kk v 0 26 0 26 p106 rfl rfl hv (by decide) (by decide) E106.out _).mono ?_); rintro e w' ⟨rfl, rfl⟩)
        | (go_at_call 66; (with_reducible refine (isOf_n [68] 83 83 (by decide) (by decide) false (by decide) _).mono ?_); rintro e w' ⟨rfl, rfl⟩)
        | (go_at_call 66; (with_reducible refine (isOf_n [68] 84 84 (by decide) (by decide) false (by decide) _).mono ?_); rintro e w' ⟨rfl, rfl⟩)
        | (go_at_call 66; (with_reducible refine (isOf_n [68] 68 68 (by decide) (by decide) true (by decide) _).mono ?_); rintro e w' ⟨rfl, rfl⟩)
        | (go_at_call 66; (with_reducible refine (isOf_n [68] 97 97 (by decide) (by decide) false (by decide) _).mono ?_); rintro e w' ⟨rfl, rfl⟩)
        | (go_at_call 66; (with_reducible refine (isOf_n [68] 105 105 (by decide) (by decide) false (by decide) _).mono ?_); rintro e w' ⟨rfl, rfl⟩)
        | (go_at_call 66; (with_reducible refine (isOf_n [68] 106 106 (by decide) (by decide) false (by decide) _).mono ?_); rintro e w' ⟨rfl, rfl⟩))
          refine bodyPost_ret (results_cell_row rfl _ _ rb 80 #[.int .i64 op, .int .i64 0, .int .i64 0, .int .i64 p68, .int .u32 0] (0, 0) _ rfl ?_ Tryz.underlying80 rfl size_ins) rfl ⟨?_, ?_⟩
          · exact (((Keeps.refl (fun _ => False) _).alloc _).block rb (Array.getElem?_eq_some_iff.1 H5.out.1).1 (fun h => h)).trans H5.out.1
          · rw [HI.out]
            rfl
          · exact (HK2.out.trans H5.out.2 (fun j hj e => by have := HRB.out; omega)).alloc _
        · replace HI : Hid (Cd.decOf v = ⟨op, p83, p84, 0, 0⟩) := HI
          have H5 := Lib.hid (set5 (a' := .int .i64 op) (b' := .int .i64 p83) (c' := .int .i64 p84) (d' := .int .i64 0) (e' := .int .u32 0) HBB.out)
          go_wp2_with (first
        | (go_at_call 20; (with_reducible refine (part_kk v 21 5 21 5 p83 rfl rfl hv (by decide) (by decide) E83.out _).mono ?_); rintro e w' ⟨rfl, rfl⟩)
        | (go_at_call 20; (with_reducible refine (part_kk v 16 5 16 5 p84 rfl rfl hv (by decide) (by decide) E84.out _).mono ?_); rintro e w' ⟨rfl, rfl⟩)
        | (go_at_call 20; (with_reducible refine (part_kk v 11 5 11 5 p68 rfl rfl hv (by decide) (by decide) E68.out _).mono ?_); rintro e w' ⟨rfl, rfl⟩)
        | (go_at_call 20; (with_reducible refine (part_kk v 6 5 6 5 p97 rfl rfl hv (by decide) (by decide) E97.out _).mono ?_); rintro e w' ⟨rfl, rfl⟩)
        | (go_at_call 20; (with_reducible refine (part_kk v 0 16 0 16 p105 rfl rfl hv (by decide) (by decide) E105.out _).mono ?_); rintro e w' ⟨rfl, rfl⟩)
        | (go_at_call 20; (with_reducible refine (part_kk v 0 26 0 26 p106 rfl rfl hv (by decide) (by decide) E106.out _).mono ?_); rintro e w' ⟨rfl, rfl⟩)
        | (go_at_call 66; (with_reducible refine (isOf_n [83, 84] 83 83 (by decide) (by decide) true (by decide) _).mono ?_); rintro e w' ⟨rfl, rfl⟩)
        | (go_at_call 66; (with_reducible refine (isOf_n [83, 84] 84 84 (by decide) (by decide) true (by decide) _).mono ?_); rintro e w' ⟨rfl, rfl⟩)
        | (go_at_call 66; (with_reducible refine (isOf_n [83, 84] 68 68 (by decide) (by decide) false (by decide) _).mono ?_); rintro e w' ⟨rfl, rfl⟩)
        | (go_at_call 66; (with_reducible refine (isOf_n [83, 84] 97 97 (by decide) (by decide) false (by decide) _).mono ?_); rintro e w' ⟨rfl, rfl⟩)
        | (go_at_call 66; (with_reducible refine (isOf_n [83, 84] 105 105 (by decide) (by decide) false (by decide) _).mono ?_); rintro e w' ⟨rfl, rfl⟩)
        | (go_at_call 66; (with_reducible refine (isOf_n [83, 84] 106 106 (by decide) (by decide) false (by decide) _).mono ?_); rintro e w' ⟨rfl, rfl⟩))
          refine bodyPost_ret (results_cell_row rfl _ _ rb 80 #[.int .i64 op, .int .i64 p83, .int .i64 p84, .int .i64 0, .int .u32 0] (0, 0) _ rfl ?_ Tryz.underlying80 rfl size_ins) rfl ⟨?_, ?_⟩
          · exact (((Keeps.refl (fun _ => False) _).alloc _).block rb (Array.getElem?_eq_some_iff.1 H5.out.1).1 (fun h => h)).trans H5.out.1
          · rw [HI.out]
            rfl
          · exact (HK2.out.trans H5.out.2 (fun j hj e => by have := HRB.out; omega)).alloc _
        · replace HI : Hid (Cd.decOf v = ⟨op, 0, 0, 0, p106⟩) := HI
          have H5 := Lib.hid (set5 (a' := .int .i64 op) (b' := .int .i64 0) (c' := .int .i64 0) (d' := .int .i64 0) (e' := .int .u32 p106) HBB.out)
          go_wp2_with (first
        | (go_at_call 20; (with_reducible refine (part_kk v 21 5 21 5 p83 rfl rfl hv (by decide) (by decide) E83.out _).mono ?_); rintro e w' ⟨rfl, rfl⟩)
        | (go_at_call 20; (with_reducible refine (part_kk v 16 5 16 5 p84 rfl rfl hv (by decide) (by decide) E84.out _).mono ?_); rintro e w' ⟨rfl, rfl⟩)
        | (go_at_call 20; (with_reducible refine (part_kk v 11 5 11 5 p68 rfl rfl hv (by decide) (by decide) E68.out _).mono ?_); rintro e w' ⟨rfl, rfl⟩)
        | (go_at_call 20; (with_reducible refine (part_kk v 6 5 6 5 p97 rfl rfl hv (by decide) (by decide) E97.out _).mono ?_); rintro e w' ⟨rfl, rfl⟩)
        | (go_at_call 20; (with_reducible refine (part_kk v 0 16 0 16 p105 rfl rfl hv (by decide) (by decide) E105.out _).mono ?_); rintro e w' ⟨rfl, rfl⟩)
        | (go_at_call 20; (with_reducible refine (part_kk v 0 26 0 26 p106 rfl rfl hv (by decide) (by decide) E106.out _).mono ?_); rintro e w' ⟨rfl, rfl⟩)
        | (go_at_call 66; (with_reducible refine (isOf_n [106] 83 83 (by decide) (by decide) false (by decide) _).mono ?_); rintro e w' ⟨rfl, rfl⟩)
        | (go_at_call 66; (with_reducible refine (isOf_n [106] 84 84 (by decide) (by decide) false (by decide) _).mono ?_); rintro e w' ⟨rfl, rfl⟩)
        | (go_at_call 66; (with_reducible refine (isOf_n [106] 68 68 (by decide) (by decide) false (by decide) _).mono ?_); rintro e w' ⟨rfl, rfl⟩)
        | (go_at_call 66; (with_reducible refine (isOf_n [106] 97 97 (by decide) (by decide) false (by decide) _).mono ?_); rintro e w' ⟨rfl, rfl⟩)
        | (go_at_call 66; (with_reducible refine (isOf_n [106] 105 105 (by decide) (by decide) false (by decide) _).mono ?_); rintro e w' ⟨rfl, rfl⟩)
        | (go_at_call 66; (with_reducible refine (isOf_n [106] 106 106 (by decide) (by decide) true (by decide) _).mono ?_); rintro e w' ⟨rfl, rfl⟩))
          refine bodyPost_ret (results_cell_row rfl _ _ rb 80 #[.int .i64 op, .int .i64 0, .int .i64 0, .int .i64 0, .int .u32 p106] (0, 0) _ rfl ?_ Tryz.underlying80 rfl size_ins) rfl ⟨?_, ?_⟩
          · exact (((Keeps.refl (fun _ => False) _).alloc _).block rb (Array.getElem?_eq_some_iff.1 H5.out.1).1 (fun h => h)).trans H5.out.1
          · rw [HI.out]
            rfl
          · exact (HK2.out.trans H5.out.2 (fun j hj e => by have := HRB.out; omega)).alloc _
        · replace HI : Hid (Cd.decOf v = ⟨op, p83, p84, 0, p105⟩) := HI
          have H5 := Lib.hid (set5 (a' := .int .i64 op) (b' := .int .i64 p83) (c' := .int .i64 p84) (d' := .int .i64 0) (e' := .int .u32 p105) HBB.out)
          go_wp2_with (first
        | (go_at_call 20; (with_reducible refine (part_kk v 21 5 21 5 p83 rfl rfl hv (by decide) (by decide) E83.out _).mono ?_); rintro e w' ⟨rfl, rfl⟩)
        | (go_at_call 20; (with_reducible refine (part_kk v 16 5 16 5 p84 rfl rfl hv (by decide) (by decide) E84.out _).mono ?_); rintro e w' ⟨rfl, rfl⟩)
        | (go_at_call 20; (with_reducible refine (part_kk v 11 5 11 5 p68 rfl rfl hv (by decide) (by decide) E68.out _).mono ?_); rintro e w' ⟨rfl, rfl⟩)
        | (go_at_call 20; (with_reducible refine (part_kk v 6 5 6 5 p97 rfl rfl hv (by decide) (by decide) E97.out _).mono ?_); rintro e w' ⟨rfl, rfl⟩)
        | (go_at_call 20; (with_reducible refine (part_kk v 0 16 0 16 p105 rfl rfl hv (by decide) (by decide) E105.out _).mono ?_); rintro e w' ⟨rfl, rfl⟩)
        | (go_at_call 20; (with_reducible refine (part_kk v 0 26 0 26 p106 rfl rfl hv (by decide) (by decide) E106.out _).mono ?_); rintro e w' ⟨rfl, rfl⟩)
        | (go_at_call 66; (with_reducible refine (isOf_n [83, 84, 105] 83 83 (by decide) (by decide) true (by decide) _).mono ?_); rintro e w' ⟨rfl, rfl⟩)
        | (go_at_call 66; (with_reducible refine (isOf_n [83, 84, 105] 84 84 (by decide) (by decide) true (by decide) _).mono ?_); rintro e w' ⟨rfl, rfl⟩)
        | (go_at_call 66; (with_reducible refine (isOf_n [83, 84, 105] 68 68 (by decide) (by decide) false (by decide) _).mono ?_); rintro e w' ⟨rfl, rfl⟩)
        | (go_at_call 66; (with_reducible refine (isOf_n [83, 84, 105] 97 97 (by decide) (by decide) false (by decide) _).mono ?_); rintro e w' ⟨rfl, rfl⟩)
        | (go_at_call 66; (with_reducible refine (isOf_n [83, 84, 105] 105 105 (by decide) (by decide) true (by decide) _).mono ?_); rintro e w' ⟨rfl, rfl⟩)
        | (go_at_call 66; (with_reducible refine (isOf_n [83, 84, 105] 106 106 (by decide) (by decide) false (by decide) _).mono ?_); rintro e w' ⟨rfl, rfl⟩))
          refine bodyPost_ret (results_cell_row rfl _ _ rb 80 #[.int .i64 op, .int .i64 p83, .int .i64 p84, .int .i64 0, .int .u32 p105] (0, 0) _ rfl ?_ Tryz.underlying80 rfl size_ins) rfl ⟨?_, ?_⟩
          · exact (((Keeps.refl (fun _ => False) _).alloc _).block rb (Array.getElem?_eq_some_iff.1 H5.out.1).1 (fun h => h)).trans H5.out.1
          · rw [HI.out]
            rfl
          · exact (HK2.out.trans H5.out.2 (fun j hj e => by have := HRB.out; omega)).alloc _
        · replace HI : Hid (Cd.decOf v = ⟨op, p83, 0, 0, p105⟩) := HI
          have H5 := Lib.hid (set5 (a' := .int .i64 op) (b' := .int .i64 p83) (c' := .int .i64 0) (d' := .int .i64 0) (e' := .int .u32 p105) HBB.out)
          go_wp2_with (first
        | (go_at_call 20; (with_reducible refine (part_kk v 21 5 21 5 p83 rfl rfl hv (by decide) (by decide) E83.out _).mono ?_); rintro e w' ⟨rfl, rfl⟩)
        | (go_at_call 20; (with_reducible refine (part_kk v 16 5 16 5 p84 rfl rfl hv (by decide) (by decide) E84.out _).mono ?_); rintro e w' ⟨rfl, rfl⟩)
        | (go_at_call 20; (with_reducible refine (part_kk v 11 5 11 5 p68 rfl rfl hv (by decide) (by decide) E68.out _).mono ?_); rintro e w' ⟨rfl, rfl⟩)
        | (go_at_call 20; (with_reducible refine (part_kk v 6 5 6 5 p97 rfl rfl hv (by decide) (by decide) E97.out _).mono ?_); rintro e w' ⟨rfl, rfl⟩)
        | (go_at_call 20; (with_reducible refine (part_kk v 0 16 0 16 p105 rfl rfl hv (by decide) (by decide) E105.out _).mono ?_); rintro e w' ⟨rfl, rfl⟩)
        | (go_at_call 20; (with_reducible refine (part_kk v 0 26 0 26 p106 rfl rfl hv (by decide) (by decide) E106.out _).mono ?_); rintro e w' ⟨rfl, rfl⟩)
        | (go_at_call 66; (with_reducible refine (isOf_n [83, 105] 83 83 (by decide) (by decide) true (by decide) _).mono ?_); rintro e w' ⟨rfl, rfl⟩)
        | (go_at_call 66; (with_reducible refine (isOf_n [83, 105] 84 84 (by decide) (by decide) false (by decide) _).mono ?_); rintro e w' ⟨rfl, rfl⟩)
        | (go_at_call 66; (with_reducible refine (isOf_n [83, 105] 68 68 (by decide) (by decide) false (by decide) _).mono ?_); rintro e w' ⟨rfl, rfl⟩)
        | (go_at_call 66; (with_reducible refine (isOf_n [83, 105] 97 97 (by decide) (by decide) false (by decide) _).mono ?_); rintro e w' ⟨rfl, rfl⟩)
        | (go_at_call 66; (with_reducible refine (isOf_n [83, 105] 105 105 (by decide) (by decide) true (by decide) _).mono ?_); rintro e w' ⟨rfl, rfl⟩)
        | (go_at_call 66; (with_reducible refine (isOf_n [83, 105] 106 106 (by decide) (by decide) false (by decide) _).mono ?_); rintro e w' ⟨rfl, rfl⟩))
          refine bodyPost_ret (results_cell_row rfl _ _ rb 80 #[.int .i64 op, .int .i64 p83, .int .i64 0, .int .i64 0, .int .u32 p105] (0, 0) _ rfl ?_ Tryz.underlying80 rfl size_ins) rfl ⟨?_, ?_⟩
          · exact (((Keeps.refl (fun _ => False) _).alloc _).block rb (Array.getElem?_eq_some_iff.1 H5.out.1).1 (fun h => h)).trans H5.out.1
          · rw [HI.out]
            rfl
          · exact (HK2.out.trans H5.out.2 (fun j hj e => by have := HRB.out; omega)).alloc _
        · replace HI : Hid (Cd.decOf v = ⟨op, 0, p84, 0, p105⟩) := HI
          have H5 := Lib.hid (set5 (a' := .int .i64 op) (b' := .int .i64 0) (c' := .int .i64 p84) (d' := .int .i64 0) (e' := .int .u32 p105) HBB.out)
          go_wp2_with (first
        | (go_at_call 20; (with_reducible refine (part_kk v 21 5 21 5 p83 rfl rfl hv (by decide) (by decide) E83.out _).mono ?_); rintro e w' ⟨rfl, rfl⟩)
        | (go_at_call 20; (with_reducible refine (part_kk v 16 5 16 5 p84 rfl rfl hv (by decide) (by decide) E84.out _).mono ?_); rintro e w' ⟨rfl, rfl⟩)
        | (go_at_call 20; (with_reducible refine (part_kk v 11 5 11 5 p68 rfl rfl hv (by decide) (by decide) E68.out _).mono ?_); rintro e w' ⟨rfl, rfl⟩)
        | (go_at_call 20; (with_reducible refine (part_kk v 6 5 6 5 p97 rfl rfl hv (by decide) (by decide) E97.out _).mono ?_); rintro e w' ⟨rfl, rfl⟩)
        | (go_at_call 20; (with_reducible refine (part_kk v 0 16 0 16 p105 rfl rfl hv (by decide) (by decide) E105.out _).mono ?_); rintro e w' ⟨rfl, rfl⟩)
        | (go_at_call 20; (with_reducible refine (part_kk v 0 26 0 26 p106 rfl rfl hv (by decide) (by decide) E106.out _).mono ?_); rintro e w' ⟨rfl, rfl⟩)
        | (go_at_call 66; (with_reducible refine (isOf_n [84, 105] 83 83 (by decide) (by decide) false (by decide) _).mono ?_); rintro e w' ⟨rfl, rfl⟩)
        | (go_at_call 66; (with_reducible refine (isOf_n [84, 105] 84 84 (by decide) (by decide) true (by decide) _).mono ?_); rintro e w' ⟨rfl, rfl⟩)
        | (go_at_call 66; (with_reducible refine (isOf_n [84, 105] 68 68 (by decide) (by decide) false (by decide) _).mono ?_); rintro e w' ⟨rfl, rfl⟩)
        | (go_at_call 66; (with_reducible refine (isOf_n [84, 105] 97 97 (by decide) (by decide) false (by decide) _).mono ?_); rintro e w' ⟨rfl, rfl⟩)
        | (go_at_call 66; (with_reducible refine (isOf_n [84, 105] 105 105 (by decide) (by decide) true (by decide) _).mono ?_); rintro e w' ⟨rfl, rfl⟩)
        | (go_at_call 66; (with_reducible refine (isOf_n [84, 105] 106 106 (by decide) (by decide) false (by decide) _).mono ?_); rintro e w' ⟨rfl, rfl⟩))
          refine bodyPost_ret (results_cell_row rfl _ _ rb 80 #[.int .i64 op, .int .i64 0, .int .i64 p84, .int .i64 0, .int .u32 p105] (0, 0) _ rfl ?_ Tryz.underlying80 rfl size_ins) rfl ⟨?_, ?_⟩
          · exact (((Keeps.refl (fun _ => False) _).alloc _).block rb (Array.getElem?_eq_some_iff.1 H5.out.1).1 (fun h => h)).trans H5.out.1
          · rw [HI.out]
            rfl
          · exact (HK2.out.trans H5.out.2 (fun j hj e => by have := HRB.out; omega)).alloc _
        · replace HI : Hid (Cd.decOf v = ⟨op, 0, p84, p68, 0⟩) := HI
          have H5 := Lib.hid (set5 (a' := .int .i64 op) (b' := .int .i64 0) (c' := .int .i64 p84) (d' := .int .i64 p68) (e' := .int .u32 0) HBB.out)
          go_wp2_with (first
        | (go_at_call 20; (with_reducible refine (part_kk v 21 5 21 5 p83 rfl rfl hv (by decide) (by decide) E83.out _).mono ?_); rintro e w' ⟨rfl, rfl⟩)
        | (go_at_call 20; (with_reducible refine (part_kk v 16 5 16 5 p84 rfl rfl hv (by decide) (by decide) E84.out _).mono ?_); rintro e w' ⟨rfl, rfl⟩)
        | (go_at_call 20; (with_reducible refine (part_kk v 11 5 11 5 p68 rfl rfl hv (by decide) (by decide) E68.out _).mono ?_); rintro e w' ⟨rfl, rfl⟩)
        | (go_at_call 20; (with_reducible refine (part_kk v 6 5 6 5 p97 rfl rfl hv (by decide) (by decide) E97.out _).mono ?_); rintro e w' ⟨rfl, rfl⟩)
        | (go_at_call 20; (with_reducible refine (part_kk v 0 16 0 16 p105 rfl rfl hv (by decide) (by decide) E105.out _).mono ?_); rintro e w' ⟨rfl, rfl⟩)
        | (go_at_call 20; (with_reducible refine (part_kk v 0 26 0 26 p106 rfl rfl hv (by decide) (by decide) E106.out _).mono ?_); rintro e w' ⟨rfl, rfl⟩)
        | (go_at_call 66; (with_reducible refine (isOf_n [84, 68] 83 83 (by decide) (by decide) false (by decide) _).mono ?_); rintro e w' ⟨rfl, rfl⟩)
        | (go_at_call 66; (with_reducible refine (isOf_n [84, 68] 84 84 (by decide) (by decide) true (by decide) _).mono ?_); rintro e w' ⟨rfl, rfl⟩)
        | (go_at_call 66; (with_reducible refine (isOf_n [84, 68] 68 68 (by decide) (by decide) true (by decide) _).mono ?_); rintro e w' ⟨rfl, rfl⟩)
        | (go_at_call 66; (with_reducible refine (isOf_n [84, 68] 97 97 (by decide) (by decide) false (by decide) _).mono ?_); rintro e w' ⟨rfl, rfl⟩)
        | (go_at_call 66; (with_reducible refine (isOf_n [84, 68] 105 105 (by decide) (by decide) false (by decide) _).mono ?_); rintro e w' ⟨rfl, rfl⟩)
        | (go_at_call 66; (with_reducible refine (isOf_n [84, 68] 106 106 (by decide) (by decide) false (by decide) _).mono ?_); rintro e w' ⟨rfl, rfl⟩))
          refine bodyPost_ret (results_cell_row rfl _ _ rb 80 #[.int .i64 op, .int .i64 0, .int .i64 p84, .int .i64 p68, .int .u32 0] (0, 0) _ rfl ?_ Tryz.underlying80 rfl size_ins) rfl ⟨?_, ?_⟩
          · exact (((Keeps.refl (fun _ => False) _).alloc _).block rb (Array.getElem?_eq_some_iff.1 H5.out.1).1 (fun h => h)).trans H5.out.1
          · rw [HI.out]
            rfl
          · exact (HK2.out.trans H5.out.2 (fun j hj e => by have := HRB.out; omega)).alloc _
    · obtain rfl : op = 54 := by omega
      have HN : Hid (Cd.decOf v = Cd.none) := Lib.hid (HF.out.symm)
      have HB2 := (HK.out.block rb (Array.getElem?_eq_some_iff.1 HRB1.out).1 (fun h => h)).trans HRB1.out
      obtain ⟨⟨b0, b1, b2, b3, b4⟩, g0, g1, g2, g3, g4⟩ := cells5 HB2
      have H5 := Lib.hid (set5 (a' := .int .i64 0) (b' := .int .i64 0) (c' := .int .i64 0) (d' := .int .i64 0) (e' := .int .u32 0) HB2)
      clear HB2
      go_wp2_with fail
      refine bodyPost_ret (results_cell_row rfl _ _ rb 80 #[.int .i64 0, .int .i64 0, .int .i64 0, .int .i64 0, .int .u32 0] (0, 0) _ rfl ?_ Tryz.underlying80 rfl size_ins) rfl ⟨?_, ?_⟩
      · exact H5.out.1
      · rw [HN.out]
        rfl
      · exact (HK1.out.trans HK.out (fun _ _ h => h)).trans H5.out.2 (fun j hj e => by have := HRB.out; omega)
end Go.Proofs.YtlbdkcnbgdmpaaaGreatDoor

/- RefKind -/
/- The walks of the reference's RowOf, KindOf. -/
namespace Go.Proofs.YtlbdkcnbgdmpaaaGreatDoor
open Go.RowKit Go.Deep
set_option linter.unusedVariables false
set_option linter.unusedSimpArgs false

theorem set6 {w : World} {x : Nat} {T : TypeId} {a b c d e f a' b' c' d' e' f' : Value} (h : w.heap[x]? = some (.cells #[a, b, c, d, e, f] T (0, 0))) :
    ((((((w.setCell ⟨x, 0, none⟩ a').setCell ⟨x, 1, none⟩ b').setCell ⟨x, 2, none⟩ c').setCell ⟨x, 3, none⟩ d').setCell ⟨x, 4, none⟩ e').setCell ⟨x, 5, none⟩ f').heap[x]? = some (.cells #[a', b', c', d', e', f'] T (0, 0)) ∧
      Keeps (· = x) w ((((((w.setCell ⟨x, 0, none⟩ a').setCell ⟨x, 1, none⟩ b').setCell ⟨x, 2, none⟩ c').setCell ⟨x, 3, none⟩ d').setCell ⟨x, 4, none⟩ e').setCell ⟨x, 5, none⟩ f') := by
  refine ⟨?_, Keeps.trans (Keeps.trans (Keeps.trans (Keeps.trans (Keeps.trans (Keeps.one _ _ _ _) (Keeps.one _ _ _ _) (fun _ _ h => h)) (Keeps.one _ _ _ _) (fun _ _ h => h)) (Keeps.one _ _ _ _) (fun _ _ h => h)) (Keeps.one _ _ _ _) (fun _ _ h => h)) (Keeps.one _ _ _ _) (fun _ _ h => h)⟩
  have h1 := set_block (set_block (set_block (set_block (set_block (set_block h 0 a') 1 b') 2 c') 3 d') 4 e') 5 f'
  simpa using h1
theorem size_row : (Tryz.prog.info? 109).map (·.size) = some 6 := by kernel_rfl
set_option maxRecDepth 100000 in
set_option maxHeartbeats 2000000 in
theorem rowOf_any (op : Nat) (h1 : 1 ≤ op) (h2 : op < 54) (w : World) :
    Calls Tryz.prog 89 #[.int .i64 op] w fun e w' => e = .returned (.agg (Cd.rowC op).toArray) ∧ Keeps (fun _ => False) w w' := by
  have HR2 := Lib.hid (blk_alloc_new w (.cells #[.string ⟨#[]⟩, .int .i64 0, .int .i64 0, .string ⟨#[]⟩, .string ⟨#[]⟩, .string ⟨#[]⟩] 109 (0, 0)))
  have HK0 := Lib.hid ((Keeps.refl (fun _ => False) w).alloc (.cells #[.string ⟨#[]⟩, .int .i64 0, .int .i64 0, .string ⟨#[]⟩, .string ⟨#[]⟩, .string ⟨#[]⟩] 109 (0, 0)))
  obtain ⟨rb, hrb⟩ : ∃ rb, w.heap.size = rb := ⟨_, rfl⟩
  have HRB := Lib.hid hrb
  rw [hrb] at HR2
  have q1 : (1 : Int) ≤ (op : Int) := by omega
  have q0 : (0 : Int) ≤ (op : Int) := by omega
  have q2 : (op : Int) < 54 := by omega
  go_enter Tryz.func89, Tryz.ntmps89
  go_wp2_with fail
  refine (rows_any _).mono ?_
  rintro e w1 ⟨rfl, hT, hk1⟩
  have h3 := (Array.getElem?_eq_some_iff.1 HR2.out).1
  have hgb : (w.alloc (.cells #[.string ⟨#[]⟩, .int .i64 0, .int .i64 0, .string ⟨#[]⟩, .string ⟨#[]⟩, .string ⟨#[]⟩] 109 (0, 0))).heap.size = rb + 1 := by rw [nblk_alloc, hrb]
  rw [hgb] at hT
  have HB := (hk1.block rb h3 (fun h => h)).trans HR2.out
  have r0 : w1.cell? ⟨rb + 1, op * 6, none⟩ = some (.string ⟨(Cd.row op).name.toArray⟩) := row_cells hT op h2 0 (by omega) _ rfl
  have r1 : w1.cell? ⟨rb + 1, op * 6 + 1, none⟩ = some (.int .i64 (Cd.row op).major) := row_cells hT op h2 1 (by omega) _ rfl
  have r2 : w1.cell? ⟨rb + 1, op * 6 + 2, none⟩ = some (.int .i64 (Cd.row op).minor) := row_cells hT op h2 2 (by omega) _ rfl
  have r3 : w1.cell? ⟨rb + 1, op * 6 + 3, none⟩ = some (.string ⟨(Cd.row op).fields.toArray⟩) := row_cells hT op h2 3 (by omega) _ rfl
  have r4 : w1.cell? ⟨rb + 1, op * 6 + 4, none⟩ = some (.string ⟨(Cd.row op).order.toArray⟩) := row_cells hT op h2 4 (by omega) _ rfl
  have r5 : w1.cell? ⟨rb + 1, op * 6 + 5, none⟩ = some (.string ⟨(Cd.kindS (Cd.row op).kd).toArray⟩) := row_cells hT op h2 5 (by omega) _ rfl
  have b0 : w1.cell? ⟨rb, 0, none⟩ = some (.string ⟨#[]⟩) := by simp [World.cell?, HB]
  have b1 : w1.cell? ⟨rb, 1, none⟩ = some (.int .i64 0) := by simp [World.cell?, HB]
  have b2 : w1.cell? ⟨rb, 2, none⟩ = some (.int .i64 0) := by simp [World.cell?, HB]
  have b3 : w1.cell? ⟨rb, 3, none⟩ = some (.string ⟨#[]⟩) := by simp [World.cell?, HB]
  have b4 : w1.cell? ⟨rb, 4, none⟩ = some (.string ⟨#[]⟩) := by simp [World.cell?, HB]
  have b5 : w1.cell? ⟨rb, 5, none⟩ = some (.string ⟨#[]⟩) := by simp [World.cell?, HB]
  have g0 := frozen_of_block HB 0
  have g1 := frozen_of_block HB 1
  have g2 := frozen_of_block HB 2
  have g3 := frozen_of_block HB 3
  have g4 := frozen_of_block HB 4
  have g5 := frozen_of_block HB 5
  have H6 := Lib.hid (set6 (a' := .string ⟨(Cd.row op).name.toArray⟩) (b' := .int .i64 (Cd.row op).major) (c' := .int .i64 (Cd.row op).minor) (d' := .string ⟨(Cd.row op).fields.toArray⟩) (e' := .string ⟨(Cd.row op).order.toArray⟩) (f' := .string ⟨(Cd.kindS (Cd.row op).kd).toArray⟩) HB)
  have HK1 := Lib.hid (HK0.out.trans hk1 (fun _ _ h => h))
  clear hT h3 HK0 HR2 HB hk1
  go_wp2_with fail
  clear hgb hrb
  refine bodyPost_ret (results_cell_row rfl _ _ rb 109 (Cd.rowC op).toArray (0, 0) _ rfl ?_ Tryz.underlying109 rfl size_row) rfl ⟨rfl, ?_⟩
  · exact H6.out.1
  · exact HK1.out.trans H6.out.2 (fun j hj e => by have := HRB.out; omega)
theorem field_kind (nm fl od ks : ByteArray) (mj mn : Int) (w : World) : (Instr.field 109 (.agg #[.string nm, .int .i64 mj, .int .i64 mn, .string fl, .string od, .string ks]) 5).run Tryz.prog w = .ok (.string ks) w := by kernel_rfl
set_option maxRecDepth 100000 in
set_option maxHeartbeats 2000000 in
theorem kindOf_any (op : Nat) (h2 : op < 54) (w : World) :
    Calls Tryz.prog 63 #[.int .i64 op] w fun e w' => e = .returned (.string ⟨(Cd.kindS (Cd.kd op)).toArray⟩) ∧ Keeps (fun _ => False) w w' := by
  by_cases h0 : op = 0
  · subst h0
    show Calls _ _ #[.int .i64 0] w _
    go_enter Tryz.func63, Tryz.ntmps63
    go_wp2_with fail
    go_ret
    exact ⟨rfl, Keeps.refl _ _⟩
  · have hr : ∀ w, Calls Tryz.prog 89 #[.int .i64 op] w fun e w' => e = .returned (.agg #[.string ⟨(Cd.row op).name.toArray⟩, .int .i64 (Cd.row op).major, .int .i64 (Cd.row op).minor, .string ⟨(Cd.row op).fields.toArray⟩, .string ⟨(Cd.row op).order.toArray⟩, .string ⟨(Cd.kindS (Cd.row op).kd).toArray⟩]) ∧ Keeps (fun _ => False) w w' := fun w => rowOf_any op (by omega) h2 w
    have HR := Lib.hid hr
    clear hr
    have HE : Hid (Cd.kd op = (Cd.row op).kd) := Lib.hid (by unfold Cd.kd; rw [if_neg h0])
    have t0 : ((op : Int) == 0) = false := eqF (show ¬ (op : Int) = 0 by omega)
    clear h0
    go_enter Tryz.func63, Tryz.ntmps63
    go_wp2_with fail
    refine (HR.out _).mono ?_
    rintro e w1 ⟨rfl, hk⟩
    have hfk := field_kind ⟨(Cd.row op).name.toArray⟩ ⟨(Cd.row op).fields.toArray⟩ ⟨(Cd.row op).order.toArray⟩ ⟨(Cd.kindS (Cd.row op).kd).toArray⟩ (Cd.row op).major (Cd.row op).minor w1
    go_wp2_with fail
    go_ret
    exact ⟨by rw [HE.out]; rfl, hk⟩
end Go.Proofs.YtlbdkcnbgdmpaaaGreatDoor
