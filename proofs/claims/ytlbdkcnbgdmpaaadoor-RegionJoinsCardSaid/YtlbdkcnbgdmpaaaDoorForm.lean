
/- The walk of region.Form. -/
import Derived.Test.YtlbdkcnbgdmpaaaDoorFormBranch
import Derived.Test.YtlbdkcnbgdmpaaaDoorCode
namespace Go.Proofs.YtlbdkcnbgdmpaaaDoor
open Go.RowKit Go.Deep
set_option linter.unusedVariables false

/-- the five errors of Form, as they lie -/
structure Errs5 (w : World) (ea : Nat → Addr) : Prop where
  cell : ∀ c, (c = 2 ∨ c = 3 ∨ c = 6 ∨ c = 9 ∨ c = 10) → w.cell? ⟨gOf c, 0, none⟩ = some (errV ea c)
theorem Errs5.quiet {w w' : World} {ea : Nat → Addr} (E : Errs5 w ea) (k : Keeps (fun _ => False) w w') : Errs5 w' ea := ⟨fun c h => k.cell' (E.cell c h) (fun h => h)⟩
theorem Errs5.three {w : World} {ea : Nat → Addr} (E : Errs5 w ea) : Errs3 w ea := ⟨E.cell 3 (by omega), E.cell 9 (by omega), E.cell 10 (by omega)⟩
theorem ErrsAll.five {w : World} {ea : Nat → Addr} (E : ErrsAll w ea) : Errs5 w ea := ⟨fun c h => E.cell c (by omega) (by omega)⟩
theorem cell_lt {w : World} {b o : Nat} {v : Value} (h : w.cell? ⟨b, o, none⟩ = some v) : b < w.heap.size := by
  rcases Nat.lt_or_ge b w.heap.size with h' | h'
  · exact h'
  · simp [World.cell?, Array.getElem?_eq_none h'] at h
theorem Errs5.lt {w : World} {ea : Nat → Addr} (E : Errs5 w ea) : 0 < w.heap.size ∧ 2 < w.heap.size ∧ 3 < w.heap.size ∧ 4 < w.heap.size ∧ 1 < w.heap.size :=
  ⟨cell_lt (E.cell 3 (by omega)), cell_lt (E.cell 9 (by omega)), cell_lt (E.cell 10 (by omega)), cell_lt (E.cell 6 (by omega)), cell_lt (E.cell 2 (by omega))⟩

/-- no region -/
def noRegion : Value := .agg #[.int .u32 0, .slice none 0 0, .slice none 0 0]
/-- the error's number -/
def formC (pc most : Int) : Nat := if most < 1 ∨ 24 < most then 2 else if pc % 4 ≠ 0 then 9 else if 16384 ≤ pc then 10 else 0
/-- how many instructions -/
def formN (m : Nat → Int) (pc most : Nat) : Nat := Fm.go (kdAt m pc) ((16384 - pc) / 4) most 0 0
/-- what Form gives: a region of N instructions -/
def Formed (w : World) (m : Nat → Int) (pc N : Nat) (e : Ending) (w' : World) : Prop :=
  ∃ iv pv, e = .returned (.tuple #[.agg #[.int .u32 pc, iv, pv], .nilIface]) ∧ w'.ownsRow w.heap.size 39 5 iv N (insL m pc N) ∧ w'.ownsRow w.heap.size 3 1 pv (Fm.pages pc N).length (pageL (Fm.pages pc N)) ∧ Keeps (fun _ => False) w w'

/-- the state of the loop -/
def FLoop (w wr : World) (B f r : Nat) (most pc : Nat) (m : Nat → Int) (n st : Nat) : Prop :=
  ∃ iv pv, FAt wr B f r most pc iv pv n (Fm.pages pc n) st m ∧ Keeps (fun k => B ≤ k) w wr
theorem pages_pageStep (pc n : Nat) : Fm.pages pc (n + 1) = pageStep pc n (Fm.pages pc n) := Fm.pages_step pc n
theorem FLoop.of_taken {w wr w' : World} {B f r : Nat} {most pc : Nat} {m : Nat → Int} {n n' st st' : Nat} {iv pv : Value} {ps : List Nat} (F : FAt wr B f r most pc iv pv n (Fm.pages pc n) st m) (hk : Keeps (fun k => B ≤ k) w wr)
    (h : Taken wr w' B f r most pc iv pv n' ps st' m) (hps : ps = Fm.pages pc n') : FLoop w w' B f r most pc m n' st' := by
  subst hps
  obtain ⟨iv', pv', h1, _, _, h4⟩ := h
  refine ⟨iv', pv', h1, Keeps.trans hk h4 (fun b _ h => ?_)⟩
  rcases h with h | h | h
  · rw [h]; exact F.low
  · exact (F.ins.lt b h).1
  · exact (F.pg.lt b h).1
theorem cells3 {w : World} {x : Nat} {T : TypeId} {a b c : Value} (h : w.heap[x]? = some (.cells #[a, b, c] T (0, 0))) :
    (w.cell? ⟨x, 0, none⟩ = some a ∧ w.cell? ⟨x, 0 + 1, none⟩ = some b ∧ w.cell? ⟨x, 0 + 2, none⟩ = some c) ∧
    (w.frozen? ⟨x, 0, none⟩ = false ∧ w.frozen? ⟨x, 0 + 1, none⟩ = false ∧ w.frozen? ⟨x, 0 + 2, none⟩ = false) := by
  refine ⟨⟨?_, ?_, ?_⟩, ?_, ?_, ?_⟩ <;> simp [World.cell?, World.frozen?, h]
theorem set3 {w : World} {x : Nat} {T : TypeId} {a b c a' b' c' : Value} (h : w.heap[x]? = some (.cells #[a, b, c] T (0, 0))) :
    (((w.setCell ⟨x, 0, none⟩ a').setCell ⟨x, 1, none⟩ b').setCell ⟨x, 2, none⟩ c').heap[x]? = some (.cells #[a', b', c'] T (0, 0)) ∧
      Keeps (· = x) w (((w.setCell ⟨x, 0, none⟩ a').setCell ⟨x, 1, none⟩ b').setCell ⟨x, 2, none⟩ c') := by
  refine ⟨?_, Keeps.trans (Keeps.trans (Keeps.one _ _ _ _) (Keeps.one _ _ _ _) (fun _ _ h => h)) (Keeps.one _ _ _ _) (fun _ _ h => h)⟩
  have h1 := set_block (set_block (set_block h 0 a') 1 b') 2 c'
  simpa using h1
set_option maxHeartbeats 1000000 in
theorem form_nil (pc most : Int) (w : World) (ea : Nat → Addr) (E : Errs5 w ea) :
    Calls Tryd.prog 10 #[.pointer none, .int .u32 pc, .int .i64 most] w fun e w' => e = .returned (.tuple #[noRegion, errV ea 3]) ∧ Keeps (fun _ => False) w w' := by
  have k0 := (Keeps.refl (fun _ => False) w).alloc (.cells #[.int .u32 0, .slice none 0 0, .slice none 0 0] 30)
  have hb0 := blk_alloc_new w (.cells #[.int .u32 0, .slice none 0 0, .slice none 0 0] 30)
  have e1 : (w.alloc (.cells #[.int .u32 0, .slice none 0 0, .slice none 0 0] 30)).cell? ⟨0, 0, none⟩ = some (errV ea 3) := (E.quiet k0).cell 3 (by omega)
  unfold errV at *
  go_enter Tryd.func10, Tryd.ntmps10
  go_wp2_with fail
  all_goals (
    go_region
    generalize w.alloc (.cells #[.int .u32 0, .slice none 0 0, .slice none 0 0] 30) = wb at *
    generalize w.heap.size = b0 at *
    obtain ⟨⟨d0, d1, d2⟩, _⟩ := cells3 hb0
    clear hb0
    go_wp2_with fail
    refine bodyPost_ret (v := .tuple #[noRegion, .iface 173 (.pointer (some (ea 3)))]) ?_ rfl ⟨rfl, k0.drew⟩
    simp only [Nat.zero_add] at d1 d2
    simp [results, Tryd.results10, go_sem, d0, d1, d2, noRegion])
set_option maxHeartbeats 1000000 in
theorem form_low (r : Nat) (pc most : Int) (w : World) (ea : Nat → Addr) (E : Errs5 w ea) (h : most < 1) :
    Calls Tryd.prog 10 #[.pointer (some ⟨r, 0, none⟩), .int .u32 pc, .int .i64 most] w fun e w' => e = .returned (.tuple #[noRegion, errV ea 2]) ∧ Keeps (fun _ => False) w w' := by
  have k0 := (Keeps.refl (fun _ => False) w).alloc (.cells #[.int .u32 0, .slice none 0 0, .slice none 0 0] 30)
  have hb0 := blk_alloc_new w (.cells #[.int .u32 0, .slice none 0 0, .slice none 0 0] 30)
  have e1 : (w.alloc (.cells #[.int .u32 0, .slice none 0 0, .slice none 0 0] 30)).cell? ⟨1, 0, none⟩ = some (errV ea 2) := (E.quiet k0).cell 2 (by omega)
  unfold errV at *
  go_enter Tryd.func10, Tryd.ntmps10
  go_wp2_with fail
  all_goals (
    go_region
    generalize w.alloc (.cells #[.int .u32 0, .slice none 0 0, .slice none 0 0] 30) = wb at *
    generalize w.heap.size = b0 at *
    obtain ⟨⟨d0, d1, d2⟩, _⟩ := cells3 hb0
    clear hb0
    go_wp2_with fail
    refine bodyPost_ret (v := .tuple #[noRegion, .iface 173 (.pointer (some (ea 2)))]) ?_ rfl ⟨rfl, k0.drew⟩
    simp only [Nat.zero_add] at d1 d2
    simp [results, Tryd.results10, go_sem, d0, d1, d2, noRegion])
set_option maxHeartbeats 1000000 in
theorem form_high (r : Nat) (pc most : Int) (w : World) (ea : Nat → Addr) (E : Errs5 w ea) (h : 24 < most) :
    Calls Tryd.prog 10 #[.pointer (some ⟨r, 0, none⟩), .int .u32 pc, .int .i64 most] w fun e w' => e = .returned (.tuple #[noRegion, errV ea 2]) ∧ Keeps (fun _ => False) w w' := by
  have k0 := (Keeps.refl (fun _ => False) w).alloc (.cells #[.int .u32 0, .slice none 0 0, .slice none 0 0] 30)
  have hb0 := blk_alloc_new w (.cells #[.int .u32 0, .slice none 0 0, .slice none 0 0] 30)
  have e1 : (w.alloc (.cells #[.int .u32 0, .slice none 0 0, .slice none 0 0] 30)).cell? ⟨1, 0, none⟩ = some (errV ea 2) := (E.quiet k0).cell 2 (by omega)
  unfold errV at *
  go_enter Tryd.func10, Tryd.ntmps10
  go_wp2_with fail
  all_goals (
    go_region
    generalize w.alloc (.cells #[.int .u32 0, .slice none 0 0, .slice none 0 0] 30) = wb at *
    generalize w.heap.size = b0 at *
    obtain ⟨⟨d0, d1, d2⟩, _⟩ := cells3 hb0
    clear hb0
    go_wp2_with fail
    refine bodyPost_ret (v := .tuple #[noRegion, .iface 173 (.pointer (some (ea 2)))]) ?_ rfl ⟨rfl, k0.drew⟩
    simp only [Nat.zero_add] at d1 d2
    simp [results, Tryd.results10, go_sem, d0, d1, d2, noRegion])
set_option maxHeartbeats 1000000 in
theorem form_align (r : Nat) (pc most : Int) (w : World) (ea : Nat → Addr) (E : Errs5 w ea) (h : 1 ≤ most) (h2 : most ≤ 24) (h0 : 0 ≤ pc) (h3 : (pc % 4 != 0) = true) :
    Calls Tryd.prog 10 #[.pointer (some ⟨r, 0, none⟩), .int .u32 pc, .int .i64 most] w fun e w' => e = .returned (.tuple #[noRegion, errV ea 9]) ∧ Keeps (fun _ => False) w w' := by
  have k0 := (Keeps.refl (fun _ => False) w).alloc (.cells #[.int .u32 0, .slice none 0 0, .slice none 0 0] 30)
  have hb0 := blk_alloc_new w (.cells #[.int .u32 0, .slice none 0 0, .slice none 0 0] 30)
  have e1 : (w.alloc (.cells #[.int .u32 0, .slice none 0 0, .slice none 0 0] 30)).cell? ⟨2, 0, none⟩ = some (errV ea 9) := (E.quiet k0).cell 9 (by omega)
  unfold errV at *
  go_enter Tryd.func10, Tryd.ntmps10
  go_wp2_with fail
  all_goals (
    go_region
    generalize w.alloc (.cells #[.int .u32 0, .slice none 0 0, .slice none 0 0] 30) = wb at *
    generalize w.heap.size = b0 at *
    obtain ⟨⟨d0, d1, d2⟩, _⟩ := cells3 hb0
    clear hb0
    go_wp2_with fail
    refine bodyPost_ret (v := .tuple #[noRegion, .iface 173 (.pointer (some (ea 9)))]) ?_ rfl ⟨rfl, k0.drew⟩
    simp only [Nat.zero_add] at d1 d2
    simp [results, Tryd.results10, go_sem, d0, d1, d2, noRegion])
set_option maxHeartbeats 1000000 in
theorem form_far (r : Nat) (pc most : Int) (w : World) (ea : Nat → Addr) (E : Errs5 w ea) (h : 1 ≤ most) (h2 : most ≤ 24) (h0 : 0 ≤ pc) (h3 : (pc % 4 != 0) = false) (h4 : 16384 ≤ pc) :
    Calls Tryd.prog 10 #[.pointer (some ⟨r, 0, none⟩), .int .u32 pc, .int .i64 most] w fun e w' => e = .returned (.tuple #[noRegion, errV ea 10]) ∧ Keeps (fun _ => False) w w' := by
  have k0 := (Keeps.refl (fun _ => False) w).alloc (.cells #[.int .u32 0, .slice none 0 0, .slice none 0 0] 30)
  have hb0 := blk_alloc_new w (.cells #[.int .u32 0, .slice none 0 0, .slice none 0 0] 30)
  have e1 : (w.alloc (.cells #[.int .u32 0, .slice none 0 0, .slice none 0 0] 30)).cell? ⟨3, 0, none⟩ = some (errV ea 10) := (E.quiet k0).cell 10 (by omega)
  unfold errV at *
  go_enter Tryd.func10, Tryd.ntmps10
  go_wp2_with fail
  all_goals (
    go_region
    generalize w.alloc (.cells #[.int .u32 0, .slice none 0 0, .slice none 0 0] 30) = wb at *
    generalize w.heap.size = b0 at *
    obtain ⟨⟨d0, d1, d2⟩, _⟩ := cells3 hb0
    clear hb0
    go_wp2_with fail
    refine bodyPost_ret (v := .tuple #[noRegion, .iface 173 (.pointer (some (ea 10)))]) ?_ rfl ⟨rfl, k0.drew⟩
    simp only [Nat.zero_add] at d1 d2
    simp [results, Tryd.results10, go_sem, d0, d1, d2, noRegion])
end Go.Proofs.YtlbdkcnbgdmpaaaDoor
