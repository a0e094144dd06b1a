
/- A row of kept plans of the call's own. -/
import Derived.Test.YtlmnmncdoiealaaGreatDoorOpsOwn
import Derived.Test.YtlmnmncdoiealaaGreatDoorGrow
import Derived.Laws.OwnMore
import Derived.Laws.CopyRow
namespace Go.Proofs.YtlmnmncdoiealaaGreatDoor
open Go.RowKit Go.Deep
set_option linter.unusedVariables false
set_option linter.unusedSimpArgs false

/-- a kept plan as it lies: its place, its count, its rows' slice, its pages' slice -/
structure K4 where
  pc : Int
  many : Int
  A : Option Addr
  n : Nat
  c : Nat
  P : Option Addr
  pn : Nat
  pcap : Nat
def k40 : K4 := ⟨0, 0, none, 0, 0, none, 0, 0⟩
def kC (k : K4) : Array Value := #[.int .u32 k.pc, .int .i64 k.many, .slice k.A k.n k.c, .slice k.P k.pn k.pcap]
def kL (l : List K4) : List Value := l.flatMap fun k => (kC k).toList
theorem kL_len (l : List K4) : (kL l).length = l.length * 4 := by
  induction l with
  | nil => rfl
  | cons o r ih =>
    have : kL (o :: r) = (kC o).toList ++ kL r := rfl
    rw [this, List.length_append, ih, List.length_cons]
    show 4 + _ = _
    omega
theorem kL_append (a b : List K4) : kL (a ++ b) = kL a ++ kL b := by unfold kL; rw [List.flatMap_append]
theorem kL_snoc (l : List K4) (k : K4) : kL (l ++ [k]) = kL l ++ (kC k).toList := by rw [kL_append]; simp [kL]
theorem kL_get (l : List K4) : ∀ i q, i < l.length → q < 4 → (kL l)[i * 4 + q]? = (kC (l.getD i k40))[q]? := by
  induction l with
  | nil => intro i q h; simp at h
  | cons o r ih =>
    intro i q h hq
    have e : kL (o :: r) = (kC o).toList ++ kL r := rfl
    rw [e]
    cases i with
    | zero =>
      rw [List.getElem?_append_left (by show _ < 4; omega)]
      simp
    | succ i =>
      rw [List.getElem?_append_right (by show 4 ≤ _; omega)]
      show (kL r)[(i + 1) * 4 + q - 4]? = _
      rw [show (i + 1) * 4 + q - 4 = i * 4 + q by omega, ih i q (by simpa using h) hq]
      rfl
theorem kC_one (k : K4) : ∀ v ∈ (kC k).toList, v.oneCell' = true := by
  intro v h
  simp only [kC, List.mem_cons, List.not_mem_nil, or_false] at h
  rcases h with rfl | rfl | rfl | rfl <;> rfl
theorem kL_one (l : List K4) : ∀ v ∈ kL l, v.oneCell' = true := by
  intro v hv
  unfold kL at hv
  obtain ⟨o, _, h⟩ := List.mem_flatMap.1 hv
  exact kC_one o v h
theorem kL_take (l : List K4) (i : Nat) (hi : i ≤ l.length) : (kL l).take (i * 4) = kL (l.take i) := by
  have h := kL_append (l.take i) (l.drop i)
  rw [List.take_append_drop] at h
  rw [h, List.take_append_of_le_length (by rw [kL_len, List.length_take]; omega)]
  exact List.take_of_length_le (by rw [kL_len, List.length_take]; omega)
theorem kL_drop (l : List K4) (i : Nat) (hi : i ≤ l.length) : (kL l).drop (i * 4) = kL (l.drop i) := by
  have h := kL_append (l.take i) (l.drop i)
  rw [List.take_append_drop] at h
  have e : (kL (l.take i)).length = i * 4 := by rw [kL_len, List.length_take]; omega
  rw [h, ← e, List.drop_left]
theorem kL_set (l : List K4) (i : Nat) (hi : i < l.length) (k : K4) : ((((kL l).set (i * 4) (.int .u32 k.pc)).set (i * 4 + 1) (.int .i64 k.many)).set (i * 4 + 2) (.slice k.A k.n k.c)).set (i * 4 + 3) (.slice k.P k.pn k.pcap) = kL (l.set i k) := by
  refine List.ext_getElem? fun j => ?_
  by_cases hj : j < l.length * 4
  · have e := kL_get (l.set i k) (j / 4) (j % 4) (by rw [List.length_set]; omega) (by omega)
    have e0 := kL_get l (j / 4) (j % 4) (by omega) (by omega)
    rw [show j / 4 * 4 + j % 4 = j by omega] at e e0
    rw [e]
    simp only [List.getElem?_set, List.length_set, kL_len]
    by_cases hji : j / 4 = i
    · have hx : (l.set i k).getD (j / 4) k40 = k := by
        rw [hji, List.getD_eq_getElem?_getD, List.getElem?_set_self (by omega)]
        rfl
      rw [hx]
      have hr : j % 4 = 0 ∨ j % 4 = 1 ∨ j % 4 = 2 ∨ j % 4 = 3 := by omega
      rcases hr with hr | hr | hr | hr
      · rw [hr, if_neg (by omega), if_neg (by omega), if_neg (by omega), if_pos (by omega), if_pos (by omega)]; rfl
      · rw [hr, if_neg (by omega), if_neg (by omega), if_pos (by omega), if_pos (by omega)]; rfl
      · rw [hr, if_neg (by omega), if_pos (by omega), if_pos (by omega)]; rfl
      · rw [hr, if_pos (by omega), if_pos (by omega)]; rfl
    · have hx : (l.set i k).getD (j / 4) k40 = l.getD (j / 4) k40 := by
        rw [List.getD_eq_getElem?_getD, List.getD_eq_getElem?_getD, List.getElem?_set_ne (Ne.symm hji)]
      rw [hx, if_neg (by omega), if_neg (by omega), if_neg (by omega), if_neg (by omega), e0]
  · rw [List.getElem?_eq_none (by rw [List.length_set, List.length_set, List.length_set, List.length_set, kL_len]; omega), List.getElem?_eq_none (by rw [kL_len, List.length_set]; omega)]
theorem Tryz.info_kept : (Tryz.prog.info? 77).map (fun i => (i.zero, i.size, i.bytes)) = some (some (.agg #[.int .u32 0, .int .i64 0, .slice none 0 0, .slice none 0 0]), 4, 64) := by kernel_rfl
/-- a row of kept plans of the call's own -/
def KOwn (w : World) (B : Nat) (l : List K4) (v : Value) : Prop := ∃ A cap, v = .slice A l.length cap ∧ w.ownsRow B 77 4 v l.length (kL l)
theorem KOwn.keep {S : Nat → Prop} {w w' : World} {B : Nat} {l : List K4} {v : Value} (h : KOwn w B l v) (k : Keeps S w w') (hs : ∀ g, v.ownBlock = some g → ¬ S g) : KOwn w' B l v := by
  obtain ⟨A, cap, rfl, ho⟩ := h
  exact ⟨A, cap, rfl, owns_keep ho k hs⟩
theorem KOwn.quiet {w w' : World} {B : Nat} {l : List K4} {v : Value} (h : KOwn w B l v) (k : Keeps (fun _ => False) w w') : KOwn w' B l v := h.keep k (fun _ _ h => h)
theorem KOwn.nil (w : World) (B : Nat) : KOwn w B [] (.slice none 0 0) := ⟨none, 0, rfl, World.ownsRow_nil _ _ _ _⟩
theorem KOwn.low {w : World} {B : Nat} {l : List K4} {v : Value} (h : KOwn w B l v) : ∀ g, v.ownBlock = some g → B ≤ g ∧ g < w.heap.size := by
  obtain ⟨A, cap, rfl, _, ⟨h2, _⟩ | ⟨g2, cap', cur, h2, h3, h4, _⟩⟩ := h
  · intro g hg; rw [h2] at hg; cases hg
  · intro g hg
    rw [h2] at hg
    injection hg with hg
    subst hg
    exact ⟨h3, (Array.getElem?_eq_some_iff.1 h4).1⟩
theorem KOwn.get {w : World} {B : Nat} {l : List K4} {v : Value} (h : KOwn w B l v) {i : Nat} (hi : i < l.length) :
    ∃ g o cap, v = .slice (some ⟨g, o, none⟩) l.length cap ∧ o = 0 ∧ ∀ q u, q < 4 → (kC (l.getD i k40))[q]? = some u → w.cell? ⟨g, o + i * 4 + q, none⟩ = some u := by
  obtain ⟨A, cap, rfl, _, ⟨h2, h3⟩ | ⟨g2, cap', cur, h2, h3, h4, h5, h6, h7, h8⟩⟩ := h
  · injection h2 with e1 e2 e3
    omega
  · injection h2 with e1 e2 e3
    subst e1 e3
    refine ⟨g2, 0, cap, rfl, rfl, fun q u hq hu => ?_⟩
    rw [Nat.zero_add]
    have e := kL_get l i q hi hq
    rw [hu, ← h8, List.getElem?_take_of_lt (by omega)] at e
    unfold World.cell?
    rw [h4]
    simpa using e
/-- an entry written over another -/
theorem KOwn.set {w : World} {B g cap n : Nat} {l : List K4} (h : KOwn w B l (.slice (some ⟨g, 0, none⟩) n cap)) (i : Nat) (hi : i < l.length) (k : K4) :
    KOwn ((((w.setCell ⟨g, i * 4, none⟩ (.int .u32 k.pc)).setCell ⟨g, i * 4 + 1, none⟩ (.int .i64 k.many)).setCell ⟨g, i * 4 + 2, none⟩ (.slice k.A k.n k.c)).setCell ⟨g, i * 4 + 3, none⟩ (.slice k.P k.pn k.pcap)) B (l.set i k) (.slice (some ⟨g, 0, none⟩) n cap) ∧
      Keeps (· = g) w ((((w.setCell ⟨g, i * 4, none⟩ (.int .u32 k.pc)).setCell ⟨g, i * 4 + 1, none⟩ (.int .i64 k.many)).setCell ⟨g, i * 4 + 2, none⟩ (.slice k.A k.n k.c)).setCell ⟨g, i * 4 + 3, none⟩ (.slice k.P k.pn k.pcap)) := by
  obtain ⟨A, c, e, ho⟩ := h
  injection e with e1 e2 e3
  subst e1 e2 e3
  refine ⟨⟨_, _, by rw [List.length_set], ?_⟩, Keeps.trans (Keeps.trans (Keeps.trans (Keeps.one _ _ _ _) (Keeps.one _ _ _ _) (fun _ _ h => h)) (Keeps.one _ _ _ _) (fun _ _ h => h)) (Keeps.one _ _ _ _) (fun _ _ h => h)⟩
  have h1 := ((((ho.stored (i * 4) (.int .u32 k.pc)).1.stored (i * 4 + 1) (.int .i64 k.many)).1.stored (i * 4 + 2) (.slice k.A k.n k.c)).1.stored (i * 4 + 3) (.slice k.P k.pn k.pcap)).1
  rw [kL_set l i hi k] at h1
  rw [List.length_set]
  exact h1
/-- fewer of them -/
theorem KOwn.cut {w : World} {B g cap n : Nat} {l r : List K4} (h : KOwn w B (l ++ r) (.slice (some ⟨g, 0, none⟩) n cap)) : KOwn w B l (.slice (some ⟨g, 0, none⟩) l.length cap) := by
  obtain ⟨A, c, e, hl, ⟨h2, _⟩ | ⟨g2, cap', cur, h2, h3, h4, h5, h6, h7, h8⟩⟩ := h
  · cases h2
  injection h2 with e1 e2 e3
  injection e1 with e1
  injection e1 with e1
  subst e1 e3
  rw [List.length_append] at h5 h8
  refine ⟨_, _, rfl, ?_, .inr ⟨g, cap, cur, rfl, h3, h4, by omega, h6, h7, ?_⟩⟩
  · rw [kL_len]
  · have h9 := congrArg (List.take (l.length * 4)) h8
    rw [List.take_take, Nat.min_eq_left (by omega), kL_take (l ++ r) l.length (by simp), List.take_left] at h9
    exact h9
set_option maxRecDepth 100000 in
/-- AN ENTRY APPENDED -/
theorem wpList_append_k {w : World} {ops : Array Oper} {rest : List Oper} {o : Oper} {a : Act} {Q : Exit → Act → World → Prop} (hgd : o.guard = none) (s x : Operand)
    (ho : o.op = .call { callee := .builtin .append, args := #[s, x], argTypes := #[65, 65] }) (B : Nat) (l1 : List K4) (v : Value) (hs : a.eval s = v) (h1 : KOwn w B l1 v)
    (g : Nat) (p : K4) (hx : a.eval x = .slice (some ⟨g, 0, none⟩) 1 1) (V2 : ∀ j u, (kC p).toList[j]? = some u → w.cell? ((⟨g, 0, none⟩ : Addr).add j) = some u) (hb : l1.length ≤ 1000000) (hbase : B ≤ w.heap.size)
    (h : ∀ v' w', KOwn w' B (l1 ++ [p]) v' → Keeps (fun k => v.ownBlock = some k) w w' → wpList Tryz.prog ops Q rest (a.put o.dst v') w') : wpList Tryz.prog ops Q (o :: rest) a w := by
  obtain ⟨i0, hi, hz0, hz1, hz2⟩ := info_parts Tryz.info_kept
  obtain ⟨A1, c1, rfl, ho1⟩ := h1
  refine wpList_append_mine hgd s x 65 ho B 77 i0 _ 4 64 Tryz.underlying65 hi hz0 hz1 hz2 rfl (by decide) (.slice A1 l1.length c1) l1.length (kL l1) hs ho1 ⟨g, 0, none⟩ 1 1 (kC p).toList hx rfl V2 (kC_one p) (by unfold maxLen; omega) (by omega) hbase ?_
  intro v' w' hown hgrow hmv
  obtain ⟨A', cap', rfl⟩ := owns_slice hown
  refine h _ _ ⟨A', cap', by rw [List.length_append, List.length_singleton], ?_⟩ ((Keeps.refl _ w).grown hgrow (fun k hk _ => hk))
  rw [kL_snoc, List.length_append, List.length_singleton]
  exact hown
end Go.Proofs.YtlmnmncdoiealaaGreatDoor
