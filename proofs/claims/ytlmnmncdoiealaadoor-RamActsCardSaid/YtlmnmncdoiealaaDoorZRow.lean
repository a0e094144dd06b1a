/- A row of numbers of the call's own. -/
import Derived.Test.YtlmnmncdoiealaaDoorProg
import Derived.Test.YtlmnmncdoiealaaDoorGrow
import Derived.Test.YtlmnmncdoiealaaDoorMem
import Derived.Laws.OwnMore
import Derived.Laws.CopyRow
namespace Go.Proofs.YtlmnmncdoiealaaDoor
open Go.RowKit Go.Deep
set_option linter.unusedVariables false
set_option linter.unusedSimpArgs false

theorem Tryd.info_z : (Tryd.prog.info? 3).map (fun i => (i.zero, i.size, i.bytes)) = some (some (.int .i64 0), 1, 8) := by kernel_rfl
/-- a row of numbers of the call's own -/
def ZRow (w : World) (B : Nat) (l : List Int) (v : Value) : Prop := ∃ A cap, v = .slice A l.length cap ∧ w.ownsRow B 3 1 v l.length (l.map fun x => .int .i64 x)
theorem ZRow.keep {S : Nat → Prop} {w w' : World} {B : Nat} {l : List Int} {v : Value} (h : ZRow w B l v) (k : Keeps S w w') (hs : ∀ g, v.ownBlock = some g → ¬ S g) : ZRow w' B l v := by
  obtain ⟨A, cap, rfl, ho⟩ := h
  exact ⟨A, cap, rfl, owns_keep ho k hs⟩
theorem ZRow.quiet {w w' : World} {B : Nat} {l : List Int} {v : Value} (h : ZRow w B l v) (k : Keeps (fun _ => False) w w') : ZRow w' B l v := h.keep k (fun _ _ h => h)
theorem ZRow.nil (w : World) (B : Nat) : ZRow w B [] (.slice none 0 0) := ⟨none, 0, rfl, World.ownsRow_nil _ _ _ _⟩
theorem ZRow.low {w : World} {B : Nat} {l : List Int} {v : Value} (h : ZRow w B l v) : ∀ g, v.ownBlock = some g → B ≤ g ∧ g < w.heap.size := by
  obtain ⟨A, cap, rfl, ho⟩ := h
  exact fun g hg => ho.lt g hg
theorem owns_capz {w : World} {base e size n cap : Nat} {A : Option Addr} {xs : List Value} (h : w.ownsRow base e size (.slice A n cap) n xs) : cap ≤ 9223372036854775807 := by
  obtain ⟨_, ⟨h2, h3⟩ | ⟨g, cap', cur, h2, h3, h4, h5, h6, h7, h8⟩⟩ := h
  · injection h2 with e1 e2 e3
    omega
  · injection h2 with e1 e2 e3
    subst e3
    unfold maxLen at h6
    omega
theorem ZRow.reads {w : World} {B : Nat} {l : List Int} {A : Option Addr} {n cap : Nat} (h : ZRow w B l (.slice A n cap)) : n = l.length ∧ cap ≤ 9223372036854775807 ∧ Reads w A n cap (fun i => .int .i64 (l.getD i 0)) := by
  obtain ⟨A', c', e, ho⟩ := h
  injection e with e1 e2 e3
  subst e1 e2 e3
  refine ⟨rfl, owns_capz ho, ?_⟩
  obtain ⟨hlen, ⟨h4, h5⟩ | ⟨g, cap', cur, h4, h5, h6, h7, h8, h9, h10⟩⟩ := ho
  · injection h4 with e1 e2 e3
    subst e3
    exact ⟨by omega, .inl rfl⟩
  · injection h4 with e1 e2 e3
    subst e1 e3
    refine ⟨h7, .inr ⟨g, 0, rfl, (Array.getElem?_eq_some_iff.1 h6).1, fun i hi => ?_⟩⟩
    have e : (l.map fun x => Value.int .i64 x)[i]? = some (.int .i64 (l.getD i 0)) := by
      rw [List.getElem?_map, List.getD_eq_getElem?_getD, List.getElem?_eq_getElem hi]
      rfl
    rw [← h10, List.getElem?_take_of_lt (by omega)] at e
    rw [Nat.zero_add]
    unfold World.cell?
    rw [h6]
    simpa using e
set_option maxRecDepth 100000 in
/-- one number appended -/
theorem wpList_append_z {w : World} {ops : Array Oper} {rest : List Oper} {o : Oper} {a : Act} {Q : Exit → Act → World → Prop} (hgd : o.guard = none) (s x : Operand)
    (ho : o.op = .call { callee := .builtin .append, args := #[s, x], argTypes := #[31, 31] }) (B : Nat) (l1 : List Int) (v : Value) (hs : a.eval s = v) (h1 : ZRow w B l1 v)
    (g : Nat) (p : Int) (hx : a.eval x = .slice (some ⟨g, 0, none⟩) 1 1) (V2 : ∀ j u, [Value.int .i64 p][j]? = some u → w.cell? ((⟨g, 0, none⟩ : Addr).add j) = some u) (hb : l1.length ≤ 1000000) (hbase : B ≤ w.heap.size)
    (h : ∀ v' w', ZRow w' B (l1 ++ [p]) v' → Keeps (fun k => v.ownBlock = some k) w w' → wpList Tryd.prog ops Q rest (a.put o.dst v') w') : wpList Tryd.prog ops Q (o :: rest) a w := by
  obtain ⟨i0, hi, hz0, hz1, hz2⟩ := info_parts Tryd.info_z
  obtain ⟨A1, c1, rfl, ho1⟩ := h1
  refine wpList_append_mine hgd s x 31 ho B 3 i0 _ 1 8 Tryd.underlying31 hi hz0 hz1 hz2 rfl (by decide) (.slice A1 l1.length c1) l1.length (l1.map fun x => .int .i64 x) hs ho1 ⟨g, 0, none⟩ 1 1 [.int .i64 p] hx rfl V2 (fun u hu => by rw [List.mem_singleton] at hu; subst hu; rfl) (by unfold maxLen; omega) (by omega) hbase ?_
  intro v' w' hown hgrow hmv
  obtain ⟨A', cap', rfl⟩ := owns_slice hown
  refine h _ _ ⟨A', cap', by rw [List.length_append, List.length_singleton], ?_⟩ ((Keeps.refl _ w).grown hgrow (fun k hk _ => hk))
  rw [List.map_append, List.length_append, List.length_singleton]
  exact hown
end Go.Proofs.YtlmnmncdoiealaaDoor
