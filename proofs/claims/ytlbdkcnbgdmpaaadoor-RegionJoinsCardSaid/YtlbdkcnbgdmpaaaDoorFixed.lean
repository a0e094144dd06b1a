
/- The walks of fixed and lay. -/
import Derived.Test.YtlbdkcnbgdmpaaaDoorMask
namespace Go.Proofs.YtlbdkcnbgdmpaaaDoor
open Go.RowKit Go.Deep
set_option linter.unusedVariables false

theorem ret_u {a b : Int} (h : a = b) : Ending.returned (.int .u32 a) = .returned (.int .u32 b) := by rw [h]
set_option maxRecDepth 100000 in
set_option maxHeartbeats 1000000 in
theorem fixed_any (mj mn : Int) (h1 : 0 ≤ mj ∧ mj < 64) (h2 : 0 ≤ mn ∧ mn < 64) (h3 : mj = 16 → mn = 0 ∨ mn = 4 ∨ mn = 16) (nm fl ks : ByteArray) (w : World) :
    Calls Tryd.prog 61 #[.agg #[.string nm, .int .u32 mj, .int .u32 mn, .string fl, .string ks]] w fun e w' => e = .returned (.int .u32 (fixV mj mn)) ∧ Keeps (fun _ => False) w w' := by
  by_cases h0 : mj = 0
  · subst h0
    have hv : bits .or .u32 0 mn = mn := by
      rw [u32_or _ _ (by omega) (by omega) (by omega) (by omega)]
      show ((0 ||| mn.toNat : Nat) : Int) = mn
      rw [Nat.zero_or]
      omega
    have HV := Lib.hid hv
    clear h3 hv
    go_enter Tryd.func61, Tryd.ntmps61
    go_wp2_with fail
    go_ret
    exact ⟨ret_u HV.out, (Keeps.refl _ _).alloc _⟩
  · by_cases h4 : mj = 16
    · subst h4
      rcases h3 rfl with rfl | rfl | rfl
      all_goals
        clear h3
        go_enter Tryd.func61, Tryd.ntmps61
        go_wp2_with fail
        go_ret
        exact ⟨ret_u (by decide +kernel), (Keeps.refl _ _).alloc _⟩
    · have t1 : (mj == 0) = false := by simpa using h0
      have t2 : (mj == 16) = false := by simpa using h4
      have hv : fixV mj mn = mj * 67108864 := by rw [fixV, if_neg h0, if_neg h4]
      have HV := Lib.hid hv
      clear h3 h0 h4 hv
      go_enter Tryd.func61, Tryd.ntmps61
      go_wp2_with fail
      go_ret
      exact ⟨ret_u (by first | (rw [HV.out]; done) | (rw [HV.out]; omega)), (Keeps.refl _ _).alloc _⟩
theorem row_fix (op : Nat) (h : op < 54) : (0 ≤ ((Cd.row op).major : Int) ∧ ((Cd.row op).major : Int) < 64) ∧ (0 ≤ ((Cd.row op).minor : Int) ∧ ((Cd.row op).minor : Int) < 64) ∧ (((Cd.row op).major : Int) = 16 → ((Cd.row op).minor : Int) = 0 ∨ ((Cd.row op).minor : Int) = 4 ∨ ((Cd.row op).minor : Int) = 16) ∧ ∀ c ∈ (Cd.row op).fields, Letter c := by
  have key : ∀ o : Fin 54, (Cd.row o.val).major < 64 ∧ (Cd.row o.val).minor < 64 ∧ ((Cd.row o.val).major = 16 → (Cd.row o.val).minor = 0 ∨ (Cd.row o.val).minor = 4 ∨ (Cd.row o.val).minor = 16) ∧ ∀ c ∈ (Cd.row o.val).fields, c = 83 ∨ c = 84 ∨ c = 68 ∨ c = 97 ∨ c = 105 ∨ c = 106 := by decide +kernel
  obtain ⟨k1, k2, k3, k4⟩ := key ⟨op, h⟩
  simp only at k1 k2 k3 k4
  exact ⟨by omega, by omega, by omega, k4⟩

/-- the cells of an instruction -/
def insC (i : Cd.Ins) : Array Value := #[.int .i64 i.op, .int .i64 i.S, .int .i64 i.T, .int .i64 i.D, .int .u32 i.imm]
def layF (v : Int) (i : Cd.Ins) (c : UInt8) : Cd.Ins :=
  if c = 83 then { i with S := Cd.part v 21 5 } else if c = 84 then { i with T := Cd.part v 16 5 } else if c = 68 then { i with D := Cd.part v 11 5 }
  else if c = 97 then { i with imm := Cd.part v 6 5 } else if c = 105 then { i with imm := Cd.part v 0 16 } else { i with imm := Cd.part v 0 26 }
def layTo (op : Nat) (v : Int) (l : List UInt8) : Cd.Ins := l.foldl (layF v) ⟨op, 0, 0, 0, 0⟩
theorem layTo_take (op : Nat) (v : Int) (l : List UInt8) (k : Nat) (h : k < l.length) : layTo op v (l.take (k + 1)) = layF v (layTo op v (l.take k)) l[k] := by
  unfold layTo
  rw [List.take_succ_eq_append_getElem h, List.foldl_append]
  rfl
theorem layTo_all (op : Nat) (h : op < 54) (v : Int) : layTo op v (Cd.row op).fields = Cd.insOf op v := by
  have : op = 0 ∨ op = 1 ∨ op = 2 ∨ op = 3 ∨ op = 4 ∨ op = 5 ∨ op = 6 ∨ op = 7 ∨ op = 8 ∨ op = 9 ∨ op = 10 ∨ op = 11 ∨ op = 12 ∨ op = 13 ∨ op = 14 ∨ op = 15 ∨ op = 16 ∨ op = 17 ∨ op = 18 ∨ op = 19 ∨ op = 20 ∨ op = 21 ∨ op = 22 ∨ op = 23 ∨ op = 24 ∨ op = 25 ∨ op = 26 ∨ op = 27 ∨ op = 28 ∨ op = 29 ∨ op = 30 ∨ op = 31 ∨ op = 32 ∨ op = 33 ∨ op = 34 ∨ op = 35 ∨ op = 36 ∨ op = 37 ∨ op = 38 ∨ op = 39 ∨ op = 40 ∨ op = 41 ∨ op = 42 ∨ op = 43 ∨ op = 44 ∨ op = 45 ∨ op = 46 ∨ op = 47 ∨ op = 48 ∨ op = 49 ∨ op = 50 ∨ op = 51 ∨ op = 52 ∨ op = 53 := by omega
  rcases this with rfl | rfl | rfl | rfl | rfl | rfl | rfl | rfl | rfl | rfl | rfl | rfl | rfl | rfl | rfl | rfl | rfl | rfl | rfl | rfl | rfl | rfl | rfl | rfl | rfl | rfl | rfl | rfl | rfl | rfl | rfl | rfl | rfl | rfl | rfl | rfl | rfl | rfl | rfl | rfl | rfl | rfl | rfl | rfl | rfl | rfl | rfl | rfl | rfl | rfl | rfl | rfl | rfl | rfl <;> rfl

theorem lay_S (y : Nat) (x : Int) (cs : Array Value) (T : TypeId) (w : World) (hb : w.heap[y]? = some (.cells cs T (0, 0))) (hc : cs.size = 5) (hx : 0 ≤ x ∧ x < 4294967296) :
    Calls Tryd.prog 63 #[.pointer (some ⟨y, 0, none⟩), .int .i32 83, .int .u32 x] w fun e w' => e = .returned (.tuple #[]) ∧ w' = w.setCell ⟨y, 1, none⟩ (.int .i64 x) := by
  obtain ⟨u, hu⟩ : ∃ u, w.cell? ⟨y, 1, none⟩ = some u := ⟨cs[1], by simp [World.cell?, hb, hc]⟩
  have hf := frozen_of_block hb 1
  go_enter Tryd.func63, Tryd.ntmps63
  go_wp2_with fail
  refine bodyPost_end (results_none rfl _ _ _) rfl ?_
  exact ⟨rfl, rfl⟩
theorem lay_T (y : Nat) (x : Int) (cs : Array Value) (T : TypeId) (w : World) (hb : w.heap[y]? = some (.cells cs T (0, 0))) (hc : cs.size = 5) (hx : 0 ≤ x ∧ x < 4294967296) :
    Calls Tryd.prog 63 #[.pointer (some ⟨y, 0, none⟩), .int .i32 84, .int .u32 x] w fun e w' => e = .returned (.tuple #[]) ∧ w' = w.setCell ⟨y, 2, none⟩ (.int .i64 x) := by
  obtain ⟨u, hu⟩ : ∃ u, w.cell? ⟨y, 2, none⟩ = some u := ⟨cs[2], by simp [World.cell?, hb, hc]⟩
  have hf := frozen_of_block hb 2
  go_enter Tryd.func63, Tryd.ntmps63
  go_wp2_with fail
  refine bodyPost_end (results_none rfl _ _ _) rfl ?_
  exact ⟨rfl, rfl⟩
theorem lay_D (y : Nat) (x : Int) (cs : Array Value) (T : TypeId) (w : World) (hb : w.heap[y]? = some (.cells cs T (0, 0))) (hc : cs.size = 5) (hx : 0 ≤ x ∧ x < 4294967296) :
    Calls Tryd.prog 63 #[.pointer (some ⟨y, 0, none⟩), .int .i32 68, .int .u32 x] w fun e w' => e = .returned (.tuple #[]) ∧ w' = w.setCell ⟨y, 3, none⟩ (.int .i64 x) := by
  obtain ⟨u, hu⟩ : ∃ u, w.cell? ⟨y, 3, none⟩ = some u := ⟨cs[3], by simp [World.cell?, hb, hc]⟩
  have hf := frozen_of_block hb 3
  go_enter Tryd.func63, Tryd.ntmps63
  go_wp2_with fail
  refine bodyPost_end (results_none rfl _ _ _) rfl ?_
  exact ⟨rfl, rfl⟩
theorem lay_a (y : Nat) (x : Int) (cs : Array Value) (T : TypeId) (w : World) (hb : w.heap[y]? = some (.cells cs T (0, 0))) (hc : cs.size = 5) (hx : 0 ≤ x ∧ x < 4294967296) :
    Calls Tryd.prog 63 #[.pointer (some ⟨y, 0, none⟩), .int .i32 97, .int .u32 x] w fun e w' => e = .returned (.tuple #[]) ∧ w' = w.setCell ⟨y, 4, none⟩ (.int .u32 x) := by
  obtain ⟨u, hu⟩ : ∃ u, w.cell? ⟨y, 4, none⟩ = some u := ⟨cs[4], by simp [World.cell?, hb, hc]⟩
  have hf := frozen_of_block hb 4
  go_enter Tryd.func63, Tryd.ntmps63
  go_wp2_with fail
  refine bodyPost_end (results_none rfl _ _ _) rfl ?_
  exact ⟨rfl, rfl⟩
theorem lay_i (y : Nat) (x : Int) (cs : Array Value) (T : TypeId) (w : World) (hb : w.heap[y]? = some (.cells cs T (0, 0))) (hc : cs.size = 5) (hx : 0 ≤ x ∧ x < 4294967296) :
    Calls Tryd.prog 63 #[.pointer (some ⟨y, 0, none⟩), .int .i32 105, .int .u32 x] w fun e w' => e = .returned (.tuple #[]) ∧ w' = w.setCell ⟨y, 4, none⟩ (.int .u32 x) := by
  obtain ⟨u, hu⟩ : ∃ u, w.cell? ⟨y, 4, none⟩ = some u := ⟨cs[4], by simp [World.cell?, hb, hc]⟩
  have hf := frozen_of_block hb 4
  go_enter Tryd.func63, Tryd.ntmps63
  go_wp2_with fail
  refine bodyPost_end (results_none rfl _ _ _) rfl ?_
  exact ⟨rfl, rfl⟩
theorem lay_j (y : Nat) (x : Int) (cs : Array Value) (T : TypeId) (w : World) (hb : w.heap[y]? = some (.cells cs T (0, 0))) (hc : cs.size = 5) (hx : 0 ≤ x ∧ x < 4294967296) :
    Calls Tryd.prog 63 #[.pointer (some ⟨y, 0, none⟩), .int .i32 106, .int .u32 x] w fun e w' => e = .returned (.tuple #[]) ∧ w' = w.setCell ⟨y, 4, none⟩ (.int .u32 x) := by
  obtain ⟨u, hu⟩ : ∃ u, w.cell? ⟨y, 4, none⟩ = some u := ⟨cs[4], by simp [World.cell?, hb, hc]⟩
  have hf := frozen_of_block hb 4
  go_enter Tryd.func63, Tryd.ntmps63
  go_wp2_with fail
  refine bodyPost_end (results_none rfl _ _ _) rfl ?_
  exact ⟨rfl, rfl⟩
end Go.Proofs.YtlbdkcnbgdmpaaaDoor
