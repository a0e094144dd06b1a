import Derived.Test.YtlbdkcnbgdmpaaaGreatDoorOnez8
import Derived.Test.YtlbdkcnbgdmpaaaGreatDoorOnez7
import Derived.Laws.BitsAllLaws
import Derived.StillTailTactics

/- RsumOf -/
/- The reference's processor: the walks of Bit, SumOf. -/
namespace Go.Proofs.YtlbdkcnbgdmpaaaGreatDoor
open Go.RowKit Go.Deep
set_option linter.unusedVariables false

theorem bit2_any (b : Bool) (w : World) : Calls Tryz.prog 106 #[.bool b] w fun e w' => e = .returned (.int .u32 (Cp.bit b)) ∧ w = w' := by
  cases b
  all_goals
    go_enter Tryz.func106, Tryz.ntmps106
    go_wp2
    go_ret
    exact ⟨rfl, rfl⟩
/-- the kinds of sums, as texts -/
def kindX (k : Nat) : List UInt8 :=
  match k with
  | 0 => [97, 100, 100]
  | 1 => [115, 117, 98]
  | 2 => [97, 110, 100]
  | 3 => [111, 114]
  | 4 => [120, 111, 114]
  | 5 => [110, 111, 114]
  | 6 => [115, 104, 108]
  | 7 => [115, 104, 114]
  | 8 => [115, 97, 114]
  | 9 => [115, 108, 116]
  | _ => [115, 108, 116, 117]
theorem kindX_of : ∀ o : Fin 54, kindT o.val = kindX (Cp.kindK o.val) := by decide +kernel
theorem kindK_lt : ∀ o : Fin 54, Cp.kindK o.val < 11 := by decide +kernel
set_option maxHeartbeats 2000000 in
theorem sumOf_any (k : Nat) (hk : k < 11) (a b : Int) (w : World) (ha : 0 ≤ a ∧ a < 4294967296) (hb : 0 ≤ b ∧ b < 4294967296) :
    Calls Tryz.prog 100 #[.string ⟨(kindX k).toArray⟩, .int .u32 a, .int .u32 b] w fun e w' => e = .returned (.int .u32 (Cp.sumK k a b)) ∧ w = w' := by
  have : k = 0 ∨ k = 1 ∨ k = 2 ∨ k = 3 ∨ k = 4 ∨ k = 5 ∨ k = 6 ∨ k = 7 ∨ k = 8 ∨ k = 9 ∨ k = 10 := by omega
  clear hk
  have HA := Lib.hid (Cp.bitT_and a b ha hb)
  have HO := Lib.hid (Cp.bitT_or a b ha hb)
  have HX := Lib.hid (Cp.bitT_xor a b ha hb)
  have HN := Lib.hid (Cp.bitT_nor a b ha hb)
  rcases this with rfl | rfl | rfl | rfl | rfl | rfl | rfl | rfl | rfl | rfl | rfl
  · go_enter Tryz.func100, Tryz.ntmps100
    go_wp2_with fail
    refine (plus_any _ _ _ ha hb).mono ?_
    rintro e w' ⟨rfl, rfl⟩
    go_wp2_with fail
    go_ret
    exact ⟨rfl, rfl⟩
  · go_enter Tryz.func100, Tryz.ntmps100
    go_wp2_with fail
    refine (word_any _ _ (by omega)).mono ?_
    rintro e w' ⟨rfl, rfl⟩
    go_wp2_with fail
    go_ret
    exact ⟨rfl, rfl⟩
  · go_enter Tryz.func100, Tryz.ntmps100
    go_wp2_with fail
    refine (bits_any a b 8 (by omega) _ ha hb).mono ?_
    rintro e w' ⟨rfl, rfl⟩
    go_wp2_with fail
    go_ret
    exact ⟨ret_i HA.out, rfl⟩
  · go_enter Tryz.func100, Tryz.ntmps100
    go_wp2_with fail
    refine (bits_any a b 14 (by omega) _ ha hb).mono ?_
    rintro e w' ⟨rfl, rfl⟩
    go_wp2_with fail
    go_ret
    exact ⟨ret_i HO.out, rfl⟩
  · go_enter Tryz.func100, Tryz.ntmps100
    go_wp2_with fail
    refine (bits_any a b 6 (by omega) _ ha hb).mono ?_
    rintro e w' ⟨rfl, rfl⟩
    go_wp2_with fail
    go_ret
    exact ⟨ret_i HX.out, rfl⟩
  · go_enter Tryz.func100, Tryz.ntmps100
    go_wp2_with fail
    refine (bits_any a b 1 (by omega) _ ha hb).mono ?_
    rintro e w' ⟨rfl, rfl⟩
    go_wp2_with fail
    go_ret
    exact ⟨ret_i HN.out, rfl⟩
  · go_enter Tryz.func100, Tryz.ntmps100
    go_wp2_with fail
    refine (shiftOf_any _ _ _ _ ha hb).mono ?_
    rintro e w' ⟨rfl, rfl⟩
    go_wp2_with fail
    go_ret
    exact ⟨rfl, rfl⟩
  · go_enter Tryz.func100, Tryz.ntmps100
    go_wp2_with fail
    refine (shiftOf_any _ _ _ _ ha hb).mono ?_
    rintro e w' ⟨rfl, rfl⟩
    go_wp2_with fail
    go_ret
    exact ⟨rfl, rfl⟩
  · go_enter Tryz.func100, Tryz.ntmps100
    go_wp2_with fail
    refine (shiftOf_any _ _ _ _ ha hb).mono ?_
    rintro e w' ⟨rfl, rfl⟩
    go_wp2_with fail
    go_ret
    exact ⟨rfl, rfl⟩
  · go_enter Tryz.func100, Tryz.ntmps100
    go_wp2_with fail
    refine (lessOf_any _ _ _ _ ha hb).mono ?_
    rintro e w' ⟨rfl, rfl⟩
    go_wp2_with fail
    refine (bit2_any _ _).mono ?_
    rintro e w' ⟨rfl, rfl⟩
    go_wp2_with fail
    go_ret
    exact ⟨rfl, rfl⟩
  · go_enter Tryz.func100, Tryz.ntmps100
    go_wp2_with fail
    refine (lessOf_any _ _ _ _ ha hb).mono ?_
    rintro e w' ⟨rfl, rfl⟩
    go_wp2_with fail
    refine (bit2_any _ _).mono ?_
    rintro e w' ⟨rfl, rfl⟩
    go_wp2_with fail
    go_ret
    exact ⟨rfl, rfl⟩
end Go.Proofs.YtlbdkcnbgdmpaaaGreatDoor

/- CpuAt -/
/- The walks of bit and atOnce. -/
namespace Go.Proofs.YtlbdkcnbgdmpaaaGreatDoor
open Go.RowKit Go.Deep
set_option linter.unusedVariables false

theorem bit_any (b : Bool) (w : World) : Calls Tryz.prog 79 #[.bool b] w fun e w' => e = .returned (.int .u32 (Cp.bit b)) ∧ w = w' := by
  cases b
  all_goals
    go_enter Tryz.func79, Tryz.ntmps79
    go_wp2
    go_ret
    exact ⟨rfl, rfl⟩
theorem wide_rng (v : Int) : 0 ≤ Wd.wide v 16 true ∧ Wd.wide v 16 true < 4294967296 := by
  rw [Wd.wide, if_neg (by omega)]
  show 0 ≤ (if true = true ∧ (65536 : Int) ≤ 2 * (v % 65536) then (v % 65536 - 65536) % 4294967296 else v % 65536) ∧ (if true = true ∧ (65536 : Int) ≤ 2 * (v % 65536) then (v % 65536 - 65536) % 4294967296 else v % 65536) < 4294967296
  split <;> omega
theorem and_rng {a b : Int} (ha : 0 ≤ a ∧ a < 4294967296) (hb : 0 ≤ b ∧ b < 4294967296) : 0 ≤ bits .and .u32 a b ∧ bits .and .u32 a b < 4294967296 := by
  rw [u32_and a b ha.1 ha.2 hb.1 hb.2]
  have : a.toNat &&& b.toNat < 2 ^ 32 := Nat.and_lt_two_pow _ (by omega)
  omega
theorem or_rng {a b : Int} (ha : 0 ≤ a ∧ a < 4294967296) (hb : 0 ≤ b ∧ b < 4294967296) : 0 ≤ bits .or .u32 a b ∧ bits .or .u32 a b < 4294967296 := by
  rw [u32_or a b ha.1 ha.2 hb.1 hb.2]
  have : a.toNat ||| b.toNat < 2 ^ 32 := Nat.or_lt_two_pow (by omega) (by omega)
  omega
/-- the ends of the ALU's walks -/
structure AluOk (w w' : World) (sb : Nat) (r : Int × Cp.St) (e : Ending) : Prop where
  e : e = .returned (.int .i64 r.1)
  st : StAt w' sb r.2
  k : Keeps (· = sb) w w'
theorem AluOk.of {w w' : World} {sb : Nat} {r r' : Int × Cp.St} {e : Ending} (h : AluOk w w' sb r e) (hr : r' = r) : AluOk w w' sb r' e := hr ▸ h

set_option maxRecDepth 100000 in
set_option maxHeartbeats 4000000 in
theorem atOnce_any (x sb b : Nat) (i : Cd.Ins) (nx : Int) (br : Bool) (s : Cp.St) (w : World) (X : XAt w x sb b i nx br) (hS : StAt w sb s) (hs : Cp.Rng s) (hi : Cd.Ok i) (hop : 35 ≤ i.op ∧ i.op ≤ 42) (hxs : x ≠ sb) (r : Int × Cp.St) (hr : Hid (r = Cp.atOnce i s)) :
    Calls Tryz.prog 59 #[.pointer (some ⟨x, 0, none⟩)] w fun e w' => AluOk w w' sb r e := by
  obtain ⟨op, S, T, D, imm⟩ := i
  obtain ⟨c0, c1, c2, c3, c4, c5, c6, c7, c8⟩ := X.cells
  have hS5 : 0 ≤ S ∧ S < 32 := hi.S
  have hT5 : 0 ≤ T ∧ T < 32 := hi.T
  have him : 0 ≤ imm ∧ imm < 4294967296 := by have := hi.imm; simp only at this; omega
  have ha : 0 ≤ s.R S.toNat ∧ s.R S.toNat < 4294967296 := hs.R _ (by omega)
  have hn : 0 ≤ Wd.wide imm 16 true ∧ Wd.wide imm 16 true < 4294967296 := wide_rng imm
  have HR : Hid (r = if op = 35 ∧ Wd.isS (Wd.sg (s.R S.toNat) + Wd.sg (Wd.wide imm 16 true)) = false then ((12 : Int), s) else (-1, Cp.setR s T (Cp.atV op (s.R S.toNat) (Wd.wide imm 16 true) imm))) := hr
  have HS := Lib.hid hS
  clear X hi hs hr
  have hops : op = 35 ∨ op = 36 ∨ op = 37 ∨ op = 38 ∨ op = 39 ∨ op = 40 ∨ op = 41 ∨ op = 42 := by simp only at hop; omega
  clear hop
  generalize hav : s.R S.toNat = a at *
  generalize hnv : Wd.wide imm 16 true = n at *
  have HAV := Lib.hid hav
  have HNV := Lib.hid hnv
  clear hav hnv
  rcases hops with rfl | rfl | rfl | rfl | rfl | rfl | rfl | rfl
  · cases hov : Wd.isS (Wd.sg a + Wd.sg n)
    · rw [if_pos ⟨rfl, hov⟩] at HR
      go_enter Tryz.func59, Tryz.ntmps59
      go_wp2_with (first
        | (go_at_call 70; refine (v_any x sb s S _ c0 HS.out hS5).mono ?_; rw [HAV.out]; rintro e w' ⟨rfl, rfl⟩)
        | (go_at_call 71; refine (imm_any x imm _ c6 him).mono ?_; rw [HNV.out]; rintro e w' ⟨rfl, rfl⟩)
        | (go_at_call 78; refine (add_any a n _ ha hn).mono ?_; rintro e w' ⟨rfl, rfl⟩)
        | (go_at_call 80; refine (less_any a n _ _ ha hn).mono ?_; rintro e w' ⟨rfl, rfl⟩)
        | (go_at_call 79; refine (bit_any _ _).mono ?_; rintro e w' ⟨rfl, rfl⟩)
        | (go_at_call 72; refine (set_any x sb s T _ _ c0 HS.out hT5).mono ?_; rintro e w2 ⟨rfl, hS2, hk2⟩; have HS2 := Lib.hid hS2; have HK2 := Lib.hid hk2; clear hS2 hk2))
      go_ret
      exact ⟨by rw [HR.out]; rfl, by rw [HR.out]; exact HS.out, Keeps.refl _ _⟩
    · rw [if_neg (by rw [hov]; simp)] at HR
      go_enter Tryz.func59, Tryz.ntmps59
      go_wp2_with (first
        | (go_at_call 70; refine (v_any x sb s S _ c0 HS.out hS5).mono ?_; rw [HAV.out]; rintro e w' ⟨rfl, rfl⟩)
        | (go_at_call 71; refine (imm_any x imm _ c6 him).mono ?_; rw [HNV.out]; rintro e w' ⟨rfl, rfl⟩)
        | (go_at_call 78; refine (add_any a n _ ha hn).mono ?_; rintro e w' ⟨rfl, rfl⟩)
        | (go_at_call 80; refine (less_any a n _ _ ha hn).mono ?_; rintro e w' ⟨rfl, rfl⟩)
        | (go_at_call 79; refine (bit_any _ _).mono ?_; rintro e w' ⟨rfl, rfl⟩)
        | (go_at_call 72; refine (set_any x sb s T _ _ c0 HS.out hT5).mono ?_; rintro e w2 ⟨rfl, hS2, hk2⟩; have HS2 := Lib.hid hS2; have HK2 := Lib.hid hk2; clear hS2 hk2))
      go_ret
      exact ⟨by rw [HR.out]; rfl, by rw [HR.out]; exact HS2.out, HK2.out⟩
  all_goals
    rw [if_neg (by simp)] at HR
    go_enter Tryz.func59, Tryz.ntmps59
    go_wp2_with (first
        | (go_at_call 70; refine (v_any x sb s S _ c0 HS.out hS5).mono ?_; rw [HAV.out]; rintro e w' ⟨rfl, rfl⟩)
        | (go_at_call 71; refine (imm_any x imm _ c6 him).mono ?_; rw [HNV.out]; rintro e w' ⟨rfl, rfl⟩)
        | (go_at_call 78; refine (add_any a n _ ha hn).mono ?_; rintro e w' ⟨rfl, rfl⟩)
        | (go_at_call 80; refine (less_any a n _ _ ha hn).mono ?_; rintro e w' ⟨rfl, rfl⟩)
        | (go_at_call 79; refine (bit_any _ _).mono ?_; rintro e w' ⟨rfl, rfl⟩)
        | (go_at_call 72; refine (set_any x sb s T _ _ c0 HS.out hT5).mono ?_; rintro e w2 ⟨rfl, hS2, hk2⟩; have HS2 := Lib.hid hS2; have HK2 := Lib.hid hk2; clear hS2 hk2))
    go_ret
    refine ⟨by rw [HR.out]; rfl, ?_, HK2.out⟩
    rw [HR.out]
    exact HS2.out
end Go.Proofs.YtlbdkcnbgdmpaaaGreatDoor

/- CpuQ -/
/- Reading in regions that draw. -/
namespace Go.Proofs.YtlbdkcnbgdmpaaaGreatDoor
open Go.RowKit Go.Deep
set_option linter.unusedVariables false

theorem drewN_cell {w : World} {n : Nat} {a : Addr} {v : Value} (h : w.cell? a = some v) : (w.drewN n).cell? a = some v := h
theorem StAt.drew2 {w : World} {sb : Nat} {s : Cp.St} (h : StAt w sb s) : StAt w.drew sb s := h
theorem StAt.drewN {w : World} {sb : Nat} {s : Cp.St} (h : StAt w sb s) (n : Nat) : StAt (w.drewN n) sb s := h
theorem quiet_eq {P : Program} {f : FuncId} {args : Array Value} {w : World} {n : Nat} {v : Value}
    (h : Calls P f args (w.drewN n) fun e w' => e = .returned v ∧ w.drewN n = w') : Calls P f args (w.drewN n) fun e w'' => e = .returned v ∧ ∃ m, w'' = w.drewN m :=
  h.mono fun _ _ ⟨he, hm⟩ => ⟨he, n, hm.symm⟩
/-- a register is read in a region that draws -/
theorem v_q (x sb : Nat) (s : Cp.St) (n k : Int) (w : World) (d : Nat) (hx : w.cell? ⟨x, 0, none⟩ = some (.pointer (some ⟨sb, 0, none⟩))) (hS : StAt w sb s) (hn : 0 ≤ n ∧ n < 32) (hv : s.R n.toNat = k) :
    Calls Tryz.prog 70 #[.pointer (some ⟨x, 0, none⟩), .int .i64 n] (w.drewN d) fun e w'' => e = .returned (.int .u32 k) ∧ ∃ m, w'' = w.drewN m :=
  quiet_eq (by subst hv; exact v_any x sb s n (w.drewN d) hx hS hn)
theorem imm_q (x : Nat) (im k : Int) (w : World) (d : Nat) (hx : w.cell? ⟨x, 6, none⟩ = some (.int .u32 im)) (hi : 0 ≤ im ∧ im < 4294967296) (hk : Wd.wide im 16 true = k) :
    Calls Tryz.prog 71 #[.pointer (some ⟨x, 0, none⟩)] (w.drewN d) fun e w'' => e = .returned (.int .u32 k) ∧ ∃ m, w'' = w.drewN m :=
  quiet_eq (by subst hk; exact imm_any x im (w.drewN d) hx hi)
end Go.Proofs.YtlbdkcnbgdmpaaaGreatDoor

/- Rat -/
/- What the reference's operations leave of a state; an instruction as it lies. -/
namespace Go.Proofs.YtlbdkcnbgdmpaaaGreatDoor
open Go.RowKit Go.Deep
set_option linter.unusedVariables false

def IAt (w : World) (x : Nat) (i : Cd.Ins) : Prop := w.heap[x]? = some (.cells #[.int .i64 i.op, .int .i64 i.S, .int .i64 i.T, .int .i64 i.D, .int .u32 i.imm] 80 (0, 0))
theorem IAt.cells {w : World} {x : Nat} {i : Cd.Ins} (h : IAt w x i) :
    w.cell? ⟨x, 0, none⟩ = some (.int .i64 i.op) ∧ w.cell? ⟨x, 1, none⟩ = some (.int .i64 i.S) ∧ w.cell? ⟨x, 2, none⟩ = some (.int .i64 i.T) ∧ w.cell? ⟨x, 3, none⟩ = some (.int .i64 i.D) ∧ w.cell? ⟨x, 4, none⟩ = some (.int .u32 i.imm) := by
  unfold IAt at h
  refine ⟨?_, ?_, ?_, ?_, ?_⟩ <;> simp [World.cell?, h]
theorem IAt.new (w : World) (i : Cd.Ins) : IAt (w.alloc (.cells #[.int .i64 i.op, .int .i64 i.S, .int .i64 i.T, .int .i64 i.D, .int .u32 i.imm] 80)) w.heap.size i := blk_alloc_new _ _
theorem IAt.drewN {w : World} {x : Nat} {i : Cd.Ins} (h : IAt w x i) (n : Nat) : IAt (w.drewN n) x i := h
theorem IAt.keep {w w' : World} {x : Nat} {i : Cd.Ins} {S : Nat → Prop} (h : IAt w x i) (k : Keeps S w w') (hs : ¬ S x) : IAt w' x i := (k.block x (Array.getElem?_eq_some_iff.1 h).1 hs).trans h
theorem StAt.put {w : World} {sb : Nat} {s : Cp.St} (h : StAt w sb s) (n : Int) (hn : 0 ≤ n ∧ n < 32) (v : Int) : StAt (w.setCell ⟨sb, n.toNat, none⟩ (.int .u32 v)) sb (Cp.putR s n v) := h.setReg n.toNat (by omega) v
/-- what an operation of the reference leaves -/
structure RfOk (w w' : World) (sb : Nat) (r : Int × Cp.St) (e : Ending) : Prop where
  e : e = .returned (.int .i64 r.1)
  st : ∃ s', StAt w' sb s' ∧ Cp.Ends r s'
  k : Keeps (· = sb) w w'
/-- behind the opening of an operation: its instruction laid, its state as it was -/
theorem ref_open {w : World} {sb : Nat} {s : Cp.St} (hS : StAt w sb s) (i : Cd.Ins) :
    StAt (w.alloc (.cells #[.int .i64 i.op, .int .i64 i.S, .int .i64 i.T, .int .i64 i.D, .int .u32 i.imm] 80)) sb s ∧ IAt (w.alloc (.cells #[.int .i64 i.op, .int .i64 i.S, .int .i64 i.T, .int .i64 i.D, .int .u32 i.imm] 80)) w.heap.size i ∧
    Keeps (· = sb) w (w.alloc (.cells #[.int .i64 i.op, .int .i64 i.S, .int .i64 i.T, .int .i64 i.D, .int .u32 i.imm] 80)) :=
  ⟨hS.keep ((Keeps.refl (fun _ => False) w).alloc _) (fun h => h), IAt.new w i, (Keeps.refl _ w).alloc _⟩
/-- calls that leave the world -/
theorem sumOf_still (op : Nat) (hop : op < 54) (a b v : Int) (w : World) (ha : 0 ≤ a ∧ a < 4294967296) (hb : 0 ≤ b ∧ b < 4294967296) (hv : Cp.sumK (Cp.kindK op) a b = v) :
    Calls Tryz.prog 100 #[.string ⟨(kindT op).toArray⟩, .int .u32 a, .int .u32 b] w fun e w' => e = .returned (.int .u32 v) ∧ w' = w := by
  subst hv
  rw [show kindT op = kindX (Cp.kindK op) from kindX_of ⟨op, hop⟩]
  exact (sumOf_any _ (kindK_lt ⟨op, hop⟩) a b w ha hb).mono fun e w' ⟨he, hw⟩ => ⟨he, hw.symm⟩
theorem kindOf2_still (op : Nat) (h : (1 ≤ op ∧ op ≤ 6) ∨ (19 ≤ op ∧ op ≤ 28) ∨ (35 ≤ op ∧ op ≤ 42)) (w : World) :
    Calls Tryz.prog 101 #[.int .i64 op] w fun e w' => e = .returned (.string ⟨(kindT op).toArray⟩) ∧ w' = w :=
  (kindOf2_any op h w).mono fun e w' ⟨he, hw⟩ => ⟨he, hw.symm⟩
theorem shiftOf_still (k a n v : Int) (w : World) (ha : 0 ≤ a ∧ a < 4294967296) (hn : 0 ≤ n ∧ n < 4294967296) (hv : Wd.shift k a n = v) :
    Calls Tryz.prog 32 #[.int .u8 k, .int .u32 a, .int .u32 n] w fun e w' => e = .returned (.int .u32 v) ∧ w' = w := by
  subst hv
  exact (shiftOf_any k a n w ha hn).mono fun e w' ⟨he, hw⟩ => ⟨he, hw.symm⟩
end Go.Proofs.YtlbdkcnbgdmpaaaGreatDoor

/- Rsum0 -/
/- The reference's processor: the walks of sum, one an operation (0). Printed by gen/rsum.py. -/
namespace Go.Proofs.YtlbdkcnbgdmpaaaGreatDoor
open Go.RowKit Go.Deep
set_option linter.unusedVariables false

set_option maxRecDepth 100000 in
set_option maxHeartbeats 2000000 in
theorem rsum_20 (sb : Nat) (S T D imm : Int) (s : Cp.St) (w : World) (hS : StAt w sb s) (hS5 : 0 ≤ S ∧ S < 32) (hT5 : 0 ≤ T ∧ T < 32) (hD5 : 0 ≤ D ∧ D < 32) (him : 0 ≤ imm ∧ imm < 4294967296) (a bb : Int)
    (ha : 0 ≤ a ∧ a < 4294967296) (hb : 0 ≤ bb ∧ bb < 4294967296) (hav : s.R S.toNat = a) (hbv : s.R T.toNat = bb) (h0 : s.R 0 = 0) (v : Int) (HV : Hid (Cp.sumK (Cp.kindK 20) a bb = v)) :
    Calls Tryz.prog 88 #[.pointer (some ⟨sb, 0, none⟩), .agg (insC ⟨20, S, T, D, imm⟩)] w fun e w' => RfOk w w' sb (-1, Cp.setR s D v) e := by
  obtain ⟨S, rfl⟩ := Int.eq_ofNat_of_zero_le hS5.1
  obtain ⟨T, rfl⟩ := Int.eq_ofNat_of_zero_le hT5.1
  obtain ⟨D, rfl⟩ := Int.eq_ofNat_of_zero_le hD5.1
  rw [Int.toNat_natCast] at hav hbv
  have HO := Lib.hid (ref_open hS ⟨20, S, T, D, imm⟩)
  have HE := Lib.hid (Cp.ends_put (D : Int) v h0 (by omega))
  have HAV := Lib.hid hav
  have HBV := Lib.hid hbv
  have HZ := Lib.hid h0
  clear hS hav hbv h0
  unfold insC
  go_enter Tryz.func88, Tryz.ntmps88
  go_upto_region 1 with fail
  obtain ⟨hS1, hI1, hk1⟩ := HO.out
  simp only at hS1 hI1 hk1
  generalize w.alloc _ = w1 at *
  generalize w.heap.size = x at *
  have HS1 := Lib.hid hS1
  have HI1 := Lib.hid hI1
  have HK1 := Lib.hid hk1
  have HW := Lib.hid (fun d => (⟨HS1.out.drewN d, HI1.out.drewN d, HK1.out.drewN d⟩ : StAt (w1.drewN d) sb s ∧ IAt (w1.drewN d) x ⟨20, S, T, D, imm⟩ ∧ Keeps (· = sb) w (w1.drewN d)))
  obtain ⟨i0, i1, i2, i3, i4⟩ := hI1.cells
  have rS := hS1.reg S (by omega)
  rw [HAV.out] at rS
  have hS6 : (S : Int) < 32 := by omega
  have hT6 : (T : Int) < 32 := by omega
  have hD6 : (D : Int) < 32 := by omega
  clear hS1 hI1 hk1
  go_quiet (fail)
  obtain ⟨hS1, hI1, hk1⟩ := HW.out nq
  clear i0 i1 i2 i3 i4 rS HS1 HI1 HK1 HO HW
  generalize w1.drewN nq = w2 at *
  have HW := Lib.hid (fun d => (⟨hS1.drewN d, hI1.drewN d, hk1.drewN d⟩ : StAt (w2.drewN d) sb s ∧ IAt (w2.drewN d) x ⟨20, S, T, D, imm⟩ ∧ Keeps (· = sb) w (w2.drewN d)))
  obtain ⟨i0, i1, i2, i3, i4⟩ := hI1.cells
  have rT := hS1.reg T (by omega)
  rw [HBV.out] at rT
  clear hS1 hI1 hk1
  go_upto_region 2 with fail
  go_quiet (fail)
  obtain ⟨hS1, hI1, hk1⟩ := HW.out nq
  clear i0 i1 i2 i3 i4 rT HW
  generalize w2.drewN nq = w3 at *
  have HS2 := Lib.hid hS1
  have HK2 := Lib.hid hk1
  have HI2 := Lib.hid hI1
  obtain ⟨i0, i1, i2, i3, i4⟩ := hI1.cells
  have f2 := hS1.frozen D
  have r2 := hS1.reg D (by omega)
  obtain ⟨s32, s33, _, _, _, _, _, _, _, _, _⟩ := hS1.cells
  have f32 := hS1.frozen 32
  have f33 := hS1.frozen 33
  clear hS1 hk1 hI1
  go_upto_region 63 with fail
  refine wp_region_still_tail 12 (by kernel_rfl) (by kernel_rfl) ?_
  simp only [List.take_succ_cons, List.take_zero, List.drop_succ_cons, List.drop_zero]
  repeat still_step
  still_call (kindOf2_still 20 (by omega) _)
  repeat still_step
  still_call (sumOf_still 20 (by omega) a bb v _ ha hb HV.out)
  repeat still_step
  refine wpStill_nil ?_
  change wpList _ _ _ _ _ (World.drew _)
  go_wp2_with fail
  go_ret
  exact ⟨rfl, ⟨_, StAt.put (s := s) (show StAt _ sb s from HS2.out) D hD5 v, HE.out⟩, (HK2.out.drew).trans (Keeps.one _ _ _ _) (fun _ _ h => h)⟩

set_option maxRecDepth 100000 in
set_option maxHeartbeats 2000000 in
theorem rsum_22 (sb : Nat) (S T D imm : Int) (s : Cp.St) (w : World) (hS : StAt w sb s) (hS5 : 0 ≤ S ∧ S < 32) (hT5 : 0 ≤ T ∧ T < 32) (hD5 : 0 ≤ D ∧ D < 32) (him : 0 ≤ imm ∧ imm < 4294967296) (a bb : Int)
    (ha : 0 ≤ a ∧ a < 4294967296) (hb : 0 ≤ bb ∧ bb < 4294967296) (hav : s.R S.toNat = a) (hbv : s.R T.toNat = bb) (h0 : s.R 0 = 0) (v : Int) (HV : Hid (Cp.sumK (Cp.kindK 22) a bb = v)) :
    Calls Tryz.prog 88 #[.pointer (some ⟨sb, 0, none⟩), .agg (insC ⟨22, S, T, D, imm⟩)] w fun e w' => RfOk w w' sb (-1, Cp.setR s D v) e := by
  obtain ⟨S, rfl⟩ := Int.eq_ofNat_of_zero_le hS5.1
  obtain ⟨T, rfl⟩ := Int.eq_ofNat_of_zero_le hT5.1
  obtain ⟨D, rfl⟩ := Int.eq_ofNat_of_zero_le hD5.1
  rw [Int.toNat_natCast] at hav hbv
  have HO := Lib.hid (ref_open hS ⟨22, S, T, D, imm⟩)
  have HE := Lib.hid (Cp.ends_put (D : Int) v h0 (by omega))
  have HAV := Lib.hid hav
  have HBV := Lib.hid hbv
  have HZ := Lib.hid h0
  clear hS hav hbv h0
  unfold insC
  go_enter Tryz.func88, Tryz.ntmps88
  go_upto_region 1 with fail
  obtain ⟨hS1, hI1, hk1⟩ := HO.out
  simp only at hS1 hI1 hk1
  generalize w.alloc _ = w1 at *
  generalize w.heap.size = x at *
  have HS1 := Lib.hid hS1
  have HI1 := Lib.hid hI1
  have HK1 := Lib.hid hk1
  have HW := Lib.hid (fun d => (⟨HS1.out.drewN d, HI1.out.drewN d, HK1.out.drewN d⟩ : StAt (w1.drewN d) sb s ∧ IAt (w1.drewN d) x ⟨22, S, T, D, imm⟩ ∧ Keeps (· = sb) w (w1.drewN d)))
  obtain ⟨i0, i1, i2, i3, i4⟩ := hI1.cells
  have rS := hS1.reg S (by omega)
  rw [HAV.out] at rS
  have hS6 : (S : Int) < 32 := by omega
  have hT6 : (T : Int) < 32 := by omega
  have hD6 : (D : Int) < 32 := by omega
  clear hS1 hI1 hk1
  go_quiet (fail)
  obtain ⟨hS1, hI1, hk1⟩ := HW.out nq
  clear i0 i1 i2 i3 i4 rS HS1 HI1 HK1 HO HW
  generalize w1.drewN nq = w2 at *
  have HW := Lib.hid (fun d => (⟨hS1.drewN d, hI1.drewN d, hk1.drewN d⟩ : StAt (w2.drewN d) sb s ∧ IAt (w2.drewN d) x ⟨22, S, T, D, imm⟩ ∧ Keeps (· = sb) w (w2.drewN d)))
  obtain ⟨i0, i1, i2, i3, i4⟩ := hI1.cells
  have rT := hS1.reg T (by omega)
  rw [HBV.out] at rT
  clear hS1 hI1 hk1
  go_upto_region 2 with fail
  go_quiet (fail)
  obtain ⟨hS1, hI1, hk1⟩ := HW.out nq
  clear i0 i1 i2 i3 i4 rT HW
  generalize w2.drewN nq = w3 at *
  have HS2 := Lib.hid hS1
  have HK2 := Lib.hid hk1
  have HI2 := Lib.hid hI1
  obtain ⟨i0, i1, i2, i3, i4⟩ := hI1.cells
  have f2 := hS1.frozen D
  have r2 := hS1.reg D (by omega)
  obtain ⟨s32, s33, _, _, _, _, _, _, _, _, _⟩ := hS1.cells
  have f32 := hS1.frozen 32
  have f33 := hS1.frozen 33
  clear hS1 hk1 hI1
  go_upto_region 63 with fail
  refine wp_region_still_tail 12 (by kernel_rfl) (by kernel_rfl) ?_
  simp only [List.take_succ_cons, List.take_zero, List.drop_succ_cons, List.drop_zero]
  repeat still_step
  still_call (kindOf2_still 22 (by omega) _)
  repeat still_step
  still_call (sumOf_still 22 (by omega) a bb v _ ha hb HV.out)
  repeat still_step
  refine wpStill_nil ?_
  change wpList _ _ _ _ _ (World.drew _)
  go_wp2_with fail
  go_ret
  exact ⟨rfl, ⟨_, StAt.put (s := s) (show StAt _ sb s from HS2.out) D hD5 v, HE.out⟩, (HK2.out.drew).trans (Keeps.one _ _ _ _) (fun _ _ h => h)⟩

set_option maxRecDepth 100000 in
set_option maxHeartbeats 2000000 in
theorem rsum_23 (sb : Nat) (S T D imm : Int) (s : Cp.St) (w : World) (hS : StAt w sb s) (hS5 : 0 ≤ S ∧ S < 32) (hT5 : 0 ≤ T ∧ T < 32) (hD5 : 0 ≤ D ∧ D < 32) (him : 0 ≤ imm ∧ imm < 4294967296) (a bb : Int)
    (ha : 0 ≤ a ∧ a < 4294967296) (hb : 0 ≤ bb ∧ bb < 4294967296) (hav : s.R S.toNat = a) (hbv : s.R T.toNat = bb) (h0 : s.R 0 = 0) (v : Int) (HV : Hid (Cp.sumK (Cp.kindK 23) a bb = v)) :
    Calls Tryz.prog 88 #[.pointer (some ⟨sb, 0, none⟩), .agg (insC ⟨23, S, T, D, imm⟩)] w fun e w' => RfOk w w' sb (-1, Cp.setR s D v) e := by
  obtain ⟨S, rfl⟩ := Int.eq_ofNat_of_zero_le hS5.1
  obtain ⟨T, rfl⟩ := Int.eq_ofNat_of_zero_le hT5.1
  obtain ⟨D, rfl⟩ := Int.eq_ofNat_of_zero_le hD5.1
  rw [Int.toNat_natCast] at hav hbv
  have HO := Lib.hid (ref_open hS ⟨23, S, T, D, imm⟩)
  have HE := Lib.hid (Cp.ends_put (D : Int) v h0 (by omega))
  have HAV := Lib.hid hav
  have HBV := Lib.hid hbv
  have HZ := Lib.hid h0
  clear hS hav hbv h0
  unfold insC
  go_enter Tryz.func88, Tryz.ntmps88
  go_upto_region 1 with fail
  obtain ⟨hS1, hI1, hk1⟩ := HO.out
  simp only at hS1 hI1 hk1
  generalize w.alloc _ = w1 at *
  generalize w.heap.size = x at *
  have HS1 := Lib.hid hS1
  have HI1 := Lib.hid hI1
  have HK1 := Lib.hid hk1
  have HW := Lib.hid (fun d => (⟨HS1.out.drewN d, HI1.out.drewN d, HK1.out.drewN d⟩ : StAt (w1.drewN d) sb s ∧ IAt (w1.drewN d) x ⟨23, S, T, D, imm⟩ ∧ Keeps (· = sb) w (w1.drewN d)))
  obtain ⟨i0, i1, i2, i3, i4⟩ := hI1.cells
  have rS := hS1.reg S (by omega)
  rw [HAV.out] at rS
  have hS6 : (S : Int) < 32 := by omega
  have hT6 : (T : Int) < 32 := by omega
  have hD6 : (D : Int) < 32 := by omega
  clear hS1 hI1 hk1
  go_quiet (fail)
  obtain ⟨hS1, hI1, hk1⟩ := HW.out nq
  clear i0 i1 i2 i3 i4 rS HS1 HI1 HK1 HO HW
  generalize w1.drewN nq = w2 at *
  have HW := Lib.hid (fun d => (⟨hS1.drewN d, hI1.drewN d, hk1.drewN d⟩ : StAt (w2.drewN d) sb s ∧ IAt (w2.drewN d) x ⟨23, S, T, D, imm⟩ ∧ Keeps (· = sb) w (w2.drewN d)))
  obtain ⟨i0, i1, i2, i3, i4⟩ := hI1.cells
  have rT := hS1.reg T (by omega)
  rw [HBV.out] at rT
  clear hS1 hI1 hk1
  go_upto_region 2 with fail
  go_quiet (fail)
  obtain ⟨hS1, hI1, hk1⟩ := HW.out nq
  clear i0 i1 i2 i3 i4 rT HW
  generalize w2.drewN nq = w3 at *
  have HS2 := Lib.hid hS1
  have HK2 := Lib.hid hk1
  have HI2 := Lib.hid hI1
  obtain ⟨i0, i1, i2, i3, i4⟩ := hI1.cells
  have f2 := hS1.frozen D
  have r2 := hS1.reg D (by omega)
  obtain ⟨s32, s33, _, _, _, _, _, _, _, _, _⟩ := hS1.cells
  have f32 := hS1.frozen 32
  have f33 := hS1.frozen 33
  clear hS1 hk1 hI1
  go_upto_region 63 with fail
  refine wp_region_still_tail 12 (by kernel_rfl) (by kernel_rfl) ?_
  simp only [List.take_succ_cons, List.take_zero, List.drop_succ_cons, List.drop_zero]
  repeat still_step
  still_call (kindOf2_still 23 (by omega) _)
  repeat still_step
  still_call (sumOf_still 23 (by omega) a bb v _ ha hb HV.out)
  repeat still_step
  refine wpStill_nil ?_
  change wpList _ _ _ _ _ (World.drew _)
  go_wp2_with fail
  go_ret
  exact ⟨rfl, ⟨_, StAt.put (s := s) (show StAt _ sb s from HS2.out) D hD5 v, HE.out⟩, (HK2.out.drew).trans (Keeps.one _ _ _ _) (fun _ _ h => h)⟩

set_option maxRecDepth 100000 in
set_option maxHeartbeats 2000000 in
theorem rsum_24 (sb : Nat) (S T D imm : Int) (s : Cp.St) (w : World) (hS : StAt w sb s) (hS5 : 0 ≤ S ∧ S < 32) (hT5 : 0 ≤ T ∧ T < 32) (hD5 : 0 ≤ D ∧ D < 32) (him : 0 ≤ imm ∧ imm < 4294967296) (a bb : Int)
    (ha : 0 ≤ a ∧ a < 4294967296) (hb : 0 ≤ bb ∧ bb < 4294967296) (hav : s.R S.toNat = a) (hbv : s.R T.toNat = bb) (h0 : s.R 0 = 0) (v : Int) (HV : Hid (Cp.sumK (Cp.kindK 24) a bb = v)) :
    Calls Tryz.prog 88 #[.pointer (some ⟨sb, 0, none⟩), .agg (insC ⟨24, S, T, D, imm⟩)] w fun e w' => RfOk w w' sb (-1, Cp.setR s D v) e := by
  obtain ⟨S, rfl⟩ := Int.eq_ofNat_of_zero_le hS5.1
  obtain ⟨T, rfl⟩ := Int.eq_ofNat_of_zero_le hT5.1
  obtain ⟨D, rfl⟩ := Int.eq_ofNat_of_zero_le hD5.1
  rw [Int.toNat_natCast] at hav hbv
  have HO := Lib.hid (ref_open hS ⟨24, S, T, D, imm⟩)
  have HE := Lib.hid (Cp.ends_put (D : Int) v h0 (by omega))
  have HAV := Lib.hid hav
  have HBV := Lib.hid hbv
  have HZ := Lib.hid h0
  clear hS hav hbv h0
  unfold insC
  go_enter Tryz.func88, Tryz.ntmps88
  go_upto_region 1 with fail
  obtain ⟨hS1, hI1, hk1⟩ := HO.out
  simp only at hS1 hI1 hk1
  generalize w.alloc _ = w1 at *
  generalize w.heap.size = x at *
  have HS1 := Lib.hid hS1
  have HI1 := Lib.hid hI1
  have HK1 := Lib.hid hk1
  have HW := Lib.hid (fun d => (⟨HS1.out.drewN d, HI1.out.drewN d, HK1.out.drewN d⟩ : StAt (w1.drewN d) sb s ∧ IAt (w1.drewN d) x ⟨24, S, T, D, imm⟩ ∧ Keeps (· = sb) w (w1.drewN d)))
  obtain ⟨i0, i1, i2, i3, i4⟩ := hI1.cells
  have rS := hS1.reg S (by omega)
  rw [HAV.out] at rS
  have hS6 : (S : Int) < 32 := by omega
  have hT6 : (T : Int) < 32 := by omega
  have hD6 : (D : Int) < 32 := by omega
  clear hS1 hI1 hk1
  go_quiet (fail)
  obtain ⟨hS1, hI1, hk1⟩ := HW.out nq
  clear i0 i1 i2 i3 i4 rS HS1 HI1 HK1 HO HW
  generalize w1.drewN nq = w2 at *
  have HW := Lib.hid (fun d => (⟨hS1.drewN d, hI1.drewN d, hk1.drewN d⟩ : StAt (w2.drewN d) sb s ∧ IAt (w2.drewN d) x ⟨24, S, T, D, imm⟩ ∧ Keeps (· = sb) w (w2.drewN d)))
  obtain ⟨i0, i1, i2, i3, i4⟩ := hI1.cells
  have rT := hS1.reg T (by omega)
  rw [HBV.out] at rT
  clear hS1 hI1 hk1
  go_upto_region 2 with fail
  go_quiet (fail)
  obtain ⟨hS1, hI1, hk1⟩ := HW.out nq
  clear i0 i1 i2 i3 i4 rT HW
  generalize w2.drewN nq = w3 at *
  have HS2 := Lib.hid hS1
  have HK2 := Lib.hid hk1
  have HI2 := Lib.hid hI1
  obtain ⟨i0, i1, i2, i3, i4⟩ := hI1.cells
  have f2 := hS1.frozen D
  have r2 := hS1.reg D (by omega)
  obtain ⟨s32, s33, _, _, _, _, _, _, _, _, _⟩ := hS1.cells
  have f32 := hS1.frozen 32
  have f33 := hS1.frozen 33
  clear hS1 hk1 hI1
  go_upto_region 63 with fail
  refine wp_region_still_tail 12 (by kernel_rfl) (by kernel_rfl) ?_
  simp only [List.take_succ_cons, List.take_zero, List.drop_succ_cons, List.drop_zero]
  repeat still_step
  still_call (kindOf2_still 24 (by omega) _)
  repeat still_step
  still_call (sumOf_still 24 (by omega) a bb v _ ha hb HV.out)
  repeat still_step
  refine wpStill_nil ?_
  change wpList _ _ _ _ _ (World.drew _)
  go_wp2_with fail
  go_ret
  exact ⟨rfl, ⟨_, StAt.put (s := s) (show StAt _ sb s from HS2.out) D hD5 v, HE.out⟩, (HK2.out.drew).trans (Keeps.one _ _ _ _) (fun _ _ h => h)⟩

set_option maxRecDepth 100000 in
set_option maxHeartbeats 2000000 in
theorem rsum_25 (sb : Nat) (S T D imm : Int) (s : Cp.St) (w : World) (hS : StAt w sb s) (hS5 : 0 ≤ S ∧ S < 32) (hT5 : 0 ≤ T ∧ T < 32) (hD5 : 0 ≤ D ∧ D < 32) (him : 0 ≤ imm ∧ imm < 4294967296) (a bb : Int)
    (ha : 0 ≤ a ∧ a < 4294967296) (hb : 0 ≤ bb ∧ bb < 4294967296) (hav : s.R S.toNat = a) (hbv : s.R T.toNat = bb) (h0 : s.R 0 = 0) (v : Int) (HV : Hid (Cp.sumK (Cp.kindK 25) a bb = v)) :
    Calls Tryz.prog 88 #[.pointer (some ⟨sb, 0, none⟩), .agg (insC ⟨25, S, T, D, imm⟩)] w fun e w' => RfOk w w' sb (-1, Cp.setR s D v) e := by
  obtain ⟨S, rfl⟩ := Int.eq_ofNat_of_zero_le hS5.1
  obtain ⟨T, rfl⟩ := Int.eq_ofNat_of_zero_le hT5.1
  obtain ⟨D, rfl⟩ := Int.eq_ofNat_of_zero_le hD5.1
  rw [Int.toNat_natCast] at hav hbv
  have HO := Lib.hid (ref_open hS ⟨25, S, T, D, imm⟩)
  have HE := Lib.hid (Cp.ends_put (D : Int) v h0 (by omega))
  have HAV := Lib.hid hav
  have HBV := Lib.hid hbv
  have HZ := Lib.hid h0
  clear hS hav hbv h0
  unfold insC
  go_enter Tryz.func88, Tryz.ntmps88
  go_upto_region 1 with fail
  obtain ⟨hS1, hI1, hk1⟩ := HO.out
  simp only at hS1 hI1 hk1
  generalize w.alloc _ = w1 at *
  generalize w.heap.size = x at *
  have HS1 := Lib.hid hS1
  have HI1 := Lib.hid hI1
  have HK1 := Lib.hid hk1
  have HW := Lib.hid (fun d => (⟨HS1.out.drewN d, HI1.out.drewN d, HK1.out.drewN d⟩ : StAt (w1.drewN d) sb s ∧ IAt (w1.drewN d) x ⟨25, S, T, D, imm⟩ ∧ Keeps (· = sb) w (w1.drewN d)))
  obtain ⟨i0, i1, i2, i3, i4⟩ := hI1.cells
  have rS := hS1.reg S (by omega)
  rw [HAV.out] at rS
  have hS6 : (S : Int) < 32 := by omega
  have hT6 : (T : Int) < 32 := by omega
  have hD6 : (D : Int) < 32 := by omega
  clear hS1 hI1 hk1
  go_quiet (fail)
  obtain ⟨hS1, hI1, hk1⟩ := HW.out nq
  clear i0 i1 i2 i3 i4 rS HS1 HI1 HK1 HO HW
  generalize w1.drewN nq = w2 at *
  have HW := Lib.hid (fun d => (⟨hS1.drewN d, hI1.drewN d, hk1.drewN d⟩ : StAt (w2.drewN d) sb s ∧ IAt (w2.drewN d) x ⟨25, S, T, D, imm⟩ ∧ Keeps (· = sb) w (w2.drewN d)))
  obtain ⟨i0, i1, i2, i3, i4⟩ := hI1.cells
  have rT := hS1.reg T (by omega)
  rw [HBV.out] at rT
  clear hS1 hI1 hk1
  go_upto_region 2 with fail
  go_quiet (fail)
  obtain ⟨hS1, hI1, hk1⟩ := HW.out nq
  clear i0 i1 i2 i3 i4 rT HW
  generalize w2.drewN nq = w3 at *
  have HS2 := Lib.hid hS1
  have HK2 := Lib.hid hk1
  have HI2 := Lib.hid hI1
  obtain ⟨i0, i1, i2, i3, i4⟩ := hI1.cells
  have f2 := hS1.frozen D
  have r2 := hS1.reg D (by omega)
  obtain ⟨s32, s33, _, _, _, _, _, _, _, _, _⟩ := hS1.cells
  have f32 := hS1.frozen 32
  have f33 := hS1.frozen 33
  clear hS1 hk1 hI1
  go_upto_region 63 with fail
  refine wp_region_still_tail 12 (by kernel_rfl) (by kernel_rfl) ?_
  simp only [List.take_succ_cons, List.take_zero, List.drop_succ_cons, List.drop_zero]
  repeat still_step
  still_call (kindOf2_still 25 (by omega) _)
  repeat still_step
  still_call (sumOf_still 25 (by omega) a bb v _ ha hb HV.out)
  repeat still_step
  refine wpStill_nil ?_
  change wpList _ _ _ _ _ (World.drew _)
  go_wp2_with fail
  go_ret
  exact ⟨rfl, ⟨_, StAt.put (s := s) (show StAt _ sb s from HS2.out) D hD5 v, HE.out⟩, (HK2.out.drew).trans (Keeps.one _ _ _ _) (fun _ _ h => h)⟩

set_option maxRecDepth 100000 in
set_option maxHeartbeats 2000000 in
theorem rsum_26 (sb : Nat) (S T D imm : Int) (s : Cp.St) (w : World) (hS : StAt w sb s) (hS5 : 0 ≤ S ∧ S < 32) (hT5 : 0 ≤ T ∧ T < 32) (hD5 : 0 ≤ D ∧ D < 32) (him : 0 ≤ imm ∧ imm < 4294967296) (a bb : Int)
    (ha : 0 ≤ a ∧ a < 4294967296) (hb : 0 ≤ bb ∧ bb < 4294967296) (hav : s.R S.toNat = a) (hbv : s.R T.toNat = bb) (h0 : s.R 0 = 0) (v : Int) (HV : Hid (Cp.sumK (Cp.kindK 26) a bb = v)) :
    Calls Tryz.prog 88 #[.pointer (some ⟨sb, 0, none⟩), .agg (insC ⟨26, S, T, D, imm⟩)] w fun e w' => RfOk w w' sb (-1, Cp.setR s D v) e := by
  obtain ⟨S, rfl⟩ := Int.eq_ofNat_of_zero_le hS5.1
  obtain ⟨T, rfl⟩ := Int.eq_ofNat_of_zero_le hT5.1
  obtain ⟨D, rfl⟩ := Int.eq_ofNat_of_zero_le hD5.1
  rw [Int.toNat_natCast] at hav hbv
  have HO := Lib.hid (ref_open hS ⟨26, S, T, D, imm⟩)
  have HE := Lib.hid (Cp.ends_put (D : Int) v h0 (by omega))
  have HAV := Lib.hid hav
  have HBV := Lib.hid hbv
  have HZ := Lib.hid h0
  clear hS hav hbv h0
  unfold insC
  go_enter Tryz.func88, Tryz.ntmps88
  go_upto_region 1 with fail
  obtain ⟨hS1, hI1, hk1⟩ := HO.out
  simp only at hS1 hI1 hk1
  generalize w.alloc _ = w1 at *
  generalize w.heap.size = x at *
  have HS1 := Lib.hid hS1
  have HI1 := Lib.hid hI1
  have HK1 := Lib.hid hk1
  have HW := Lib.hid (fun d => (⟨HS1.out.drewN d, HI1.out.drewN d, HK1.out.drewN d⟩ : StAt (w1.drewN d) sb s ∧ IAt (w1.drewN d) x ⟨26, S, T, D, imm⟩ ∧ Keeps (· = sb) w (w1.drewN d)))
  obtain ⟨i0, i1, i2, i3, i4⟩ := hI1.cells
  have rS := hS1.reg S (by omega)
  rw [HAV.out] at rS
  have hS6 : (S : Int) < 32 := by omega
  have hT6 : (T : Int) < 32 := by omega
  have hD6 : (D : Int) < 32 := by omega
  clear hS1 hI1 hk1
  go_quiet (fail)
  obtain ⟨hS1, hI1, hk1⟩ := HW.out nq
  clear i0 i1 i2 i3 i4 rS HS1 HI1 HK1 HO HW
  generalize w1.drewN nq = w2 at *
  have HW := Lib.hid (fun d => (⟨hS1.drewN d, hI1.drewN d, hk1.drewN d⟩ : StAt (w2.drewN d) sb s ∧ IAt (w2.drewN d) x ⟨26, S, T, D, imm⟩ ∧ Keeps (· = sb) w (w2.drewN d)))
  obtain ⟨i0, i1, i2, i3, i4⟩ := hI1.cells
  have rT := hS1.reg T (by omega)
  rw [HBV.out] at rT
  clear hS1 hI1 hk1
  go_upto_region 2 with fail
  go_quiet (fail)
  obtain ⟨hS1, hI1, hk1⟩ := HW.out nq
  clear i0 i1 i2 i3 i4 rT HW
  generalize w2.drewN nq = w3 at *
  have HS2 := Lib.hid hS1
  have HK2 := Lib.hid hk1
  have HI2 := Lib.hid hI1
  obtain ⟨i0, i1, i2, i3, i4⟩ := hI1.cells
  have f2 := hS1.frozen D
  have r2 := hS1.reg D (by omega)
  obtain ⟨s32, s33, _, _, _, _, _, _, _, _, _⟩ := hS1.cells
  have f32 := hS1.frozen 32
  have f33 := hS1.frozen 33
  clear hS1 hk1 hI1
  go_upto_region 63 with fail
  refine wp_region_still_tail 12 (by kernel_rfl) (by kernel_rfl) ?_
  simp only [List.take_succ_cons, List.take_zero, List.drop_succ_cons, List.drop_zero]
  repeat still_step
  still_call (kindOf2_still 26 (by omega) _)
  repeat still_step
  still_call (sumOf_still 26 (by omega) a bb v _ ha hb HV.out)
  repeat still_step
  refine wpStill_nil ?_
  change wpList _ _ _ _ _ (World.drew _)
  go_wp2_with fail
  go_ret
  exact ⟨rfl, ⟨_, StAt.put (s := s) (show StAt _ sb s from HS2.out) D hD5 v, HE.out⟩, (HK2.out.drew).trans (Keeps.one _ _ _ _) (fun _ _ h => h)⟩

set_option maxRecDepth 100000 in
set_option maxHeartbeats 2000000 in
theorem rsum_27 (sb : Nat) (S T D imm : Int) (s : Cp.St) (w : World) (hS : StAt w sb s) (hS5 : 0 ≤ S ∧ S < 32) (hT5 : 0 ≤ T ∧ T < 32) (hD5 : 0 ≤ D ∧ D < 32) (him : 0 ≤ imm ∧ imm < 4294967296) (a bb : Int)
    (ha : 0 ≤ a ∧ a < 4294967296) (hb : 0 ≤ bb ∧ bb < 4294967296) (hav : s.R S.toNat = a) (hbv : s.R T.toNat = bb) (h0 : s.R 0 = 0) (v : Int) (HV : Hid (Cp.sumK (Cp.kindK 27) a bb = v)) :
    Calls Tryz.prog 88 #[.pointer (some ⟨sb, 0, none⟩), .agg (insC ⟨27, S, T, D, imm⟩)] w fun e w' => RfOk w w' sb (-1, Cp.setR s D v) e := by
  obtain ⟨S, rfl⟩ := Int.eq_ofNat_of_zero_le hS5.1
  obtain ⟨T, rfl⟩ := Int.eq_ofNat_of_zero_le hT5.1
  obtain ⟨D, rfl⟩ := Int.eq_ofNat_of_zero_le hD5.1
  rw [Int.toNat_natCast] at hav hbv
  have HO := Lib.hid (ref_open hS ⟨27, S, T, D, imm⟩)
  have HE := Lib.hid (Cp.ends_put (D : Int) v h0 (by omega))
  have HAV := Lib.hid hav
  have HBV := Lib.hid hbv
  have HZ := Lib.hid h0
  clear hS hav hbv h0
  unfold insC
  go_enter Tryz.func88, Tryz.ntmps88
  go_upto_region 1 with fail
  obtain ⟨hS1, hI1, hk1⟩ := HO.out
  simp only at hS1 hI1 hk1
  generalize w.alloc _ = w1 at *
  generalize w.heap.size = x at *
  have HS1 := Lib.hid hS1
  have HI1 := Lib.hid hI1
  have HK1 := Lib.hid hk1
  have HW := Lib.hid (fun d => (⟨HS1.out.drewN d, HI1.out.drewN d, HK1.out.drewN d⟩ : StAt (w1.drewN d) sb s ∧ IAt (w1.drewN d) x ⟨27, S, T, D, imm⟩ ∧ Keeps (· = sb) w (w1.drewN d)))
  obtain ⟨i0, i1, i2, i3, i4⟩ := hI1.cells
  have rS := hS1.reg S (by omega)
  rw [HAV.out] at rS
  have hS6 : (S : Int) < 32 := by omega
  have hT6 : (T : Int) < 32 := by omega
  have hD6 : (D : Int) < 32 := by omega
  clear hS1 hI1 hk1
  go_quiet (fail)
  obtain ⟨hS1, hI1, hk1⟩ := HW.out nq
  clear i0 i1 i2 i3 i4 rS HS1 HI1 HK1 HO HW
  generalize w1.drewN nq = w2 at *
  have HW := Lib.hid (fun d => (⟨hS1.drewN d, hI1.drewN d, hk1.drewN d⟩ : StAt (w2.drewN d) sb s ∧ IAt (w2.drewN d) x ⟨27, S, T, D, imm⟩ ∧ Keeps (· = sb) w (w2.drewN d)))
  obtain ⟨i0, i1, i2, i3, i4⟩ := hI1.cells
  have rT := hS1.reg T (by omega)
  rw [HBV.out] at rT
  clear hS1 hI1 hk1
  go_upto_region 2 with fail
  go_quiet (fail)
  obtain ⟨hS1, hI1, hk1⟩ := HW.out nq
  clear i0 i1 i2 i3 i4 rT HW
  generalize w2.drewN nq = w3 at *
  have HS2 := Lib.hid hS1
  have HK2 := Lib.hid hk1
  have HI2 := Lib.hid hI1
  obtain ⟨i0, i1, i2, i3, i4⟩ := hI1.cells
  have f2 := hS1.frozen D
  have r2 := hS1.reg D (by omega)
  obtain ⟨s32, s33, _, _, _, _, _, _, _, _, _⟩ := hS1.cells
  have f32 := hS1.frozen 32
  have f33 := hS1.frozen 33
  clear hS1 hk1 hI1
  go_upto_region 63 with fail
  refine wp_region_still_tail 12 (by kernel_rfl) (by kernel_rfl) ?_
  simp only [List.take_succ_cons, List.take_zero, List.drop_succ_cons, List.drop_zero]
  repeat still_step
  still_call (kindOf2_still 27 (by omega) _)
  repeat still_step
  still_call (sumOf_still 27 (by omega) a bb v _ ha hb HV.out)
  repeat still_step
  refine wpStill_nil ?_
  change wpList _ _ _ _ _ (World.drew _)
  go_wp2_with fail
  go_ret
  exact ⟨rfl, ⟨_, StAt.put (s := s) (show StAt _ sb s from HS2.out) D hD5 v, HE.out⟩, (HK2.out.drew).trans (Keeps.one _ _ _ _) (fun _ _ h => h)⟩

set_option maxRecDepth 100000 in
set_option maxHeartbeats 2000000 in
theorem rsum_28 (sb : Nat) (S T D imm : Int) (s : Cp.St) (w : World) (hS : StAt w sb s) (hS5 : 0 ≤ S ∧ S < 32) (hT5 : 0 ≤ T ∧ T < 32) (hD5 : 0 ≤ D ∧ D < 32) (him : 0 ≤ imm ∧ imm < 4294967296) (a bb : Int)
    (ha : 0 ≤ a ∧ a < 4294967296) (hb : 0 ≤ bb ∧ bb < 4294967296) (hav : s.R S.toNat = a) (hbv : s.R T.toNat = bb) (h0 : s.R 0 = 0) (v : Int) (HV : Hid (Cp.sumK (Cp.kindK 28) a bb = v)) :
    Calls Tryz.prog 88 #[.pointer (some ⟨sb, 0, none⟩), .agg (insC ⟨28, S, T, D, imm⟩)] w fun e w' => RfOk w w' sb (-1, Cp.setR s D v) e := by
  obtain ⟨S, rfl⟩ := Int.eq_ofNat_of_zero_le hS5.1
  obtain ⟨T, rfl⟩ := Int.eq_ofNat_of_zero_le hT5.1
  obtain ⟨D, rfl⟩ := Int.eq_ofNat_of_zero_le hD5.1
  rw [Int.toNat_natCast] at hav hbv
  have HO := Lib.hid (ref_open hS ⟨28, S, T, D, imm⟩)
  have HE := Lib.hid (Cp.ends_put (D : Int) v h0 (by omega))
  have HAV := Lib.hid hav
  have HBV := Lib.hid hbv
  have HZ := Lib.hid h0
  clear hS hav hbv h0
  unfold insC
  go_enter Tryz.func88, Tryz.ntmps88
  go_upto_region 1 with fail
  obtain ⟨hS1, hI1, hk1⟩ := HO.out
  simp only at hS1 hI1 hk1
  generalize w.alloc _ = w1 at *
  generalize w.heap.size = x at *
  have HS1 := Lib.hid hS1
  have HI1 := Lib.hid hI1
  have HK1 := Lib.hid hk1
  have HW := Lib.hid (fun d => (⟨HS1.out.drewN d, HI1.out.drewN d, HK1.out.drewN d⟩ : StAt (w1.drewN d) sb s ∧ IAt (w1.drewN d) x ⟨28, S, T, D, imm⟩ ∧ Keeps (· = sb) w (w1.drewN d)))
  obtain ⟨i0, i1, i2, i3, i4⟩ := hI1.cells
  have rS := hS1.reg S (by omega)
  rw [HAV.out] at rS
  have hS6 : (S : Int) < 32 := by omega
  have hT6 : (T : Int) < 32 := by omega
  have hD6 : (D : Int) < 32 := by omega
  clear hS1 hI1 hk1
  go_quiet (fail)
  obtain ⟨hS1, hI1, hk1⟩ := HW.out nq
  clear i0 i1 i2 i3 i4 rS HS1 HI1 HK1 HO HW
  generalize w1.drewN nq = w2 at *
  have HW := Lib.hid (fun d => (⟨hS1.drewN d, hI1.drewN d, hk1.drewN d⟩ : StAt (w2.drewN d) sb s ∧ IAt (w2.drewN d) x ⟨28, S, T, D, imm⟩ ∧ Keeps (· = sb) w (w2.drewN d)))
  obtain ⟨i0, i1, i2, i3, i4⟩ := hI1.cells
  have rT := hS1.reg T (by omega)
  rw [HBV.out] at rT
  clear hS1 hI1 hk1
  go_upto_region 2 with fail
  go_quiet (fail)
  obtain ⟨hS1, hI1, hk1⟩ := HW.out nq
  clear i0 i1 i2 i3 i4 rT HW
  generalize w2.drewN nq = w3 at *
  have HS2 := Lib.hid hS1
  have HK2 := Lib.hid hk1
  have HI2 := Lib.hid hI1
  obtain ⟨i0, i1, i2, i3, i4⟩ := hI1.cells
  have f2 := hS1.frozen D
  have r2 := hS1.reg D (by omega)
  obtain ⟨s32, s33, _, _, _, _, _, _, _, _, _⟩ := hS1.cells
  have f32 := hS1.frozen 32
  have f33 := hS1.frozen 33
  clear hS1 hk1 hI1
  go_upto_region 63 with fail
  refine wp_region_still_tail 12 (by kernel_rfl) (by kernel_rfl) ?_
  simp only [List.take_succ_cons, List.take_zero, List.drop_succ_cons, List.drop_zero]
  repeat still_step
  still_call (kindOf2_still 28 (by omega) _)
  repeat still_step
  still_call (sumOf_still 28 (by omega) a bb v _ ha hb HV.out)
  repeat still_step
  refine wpStill_nil ?_
  change wpList _ _ _ _ _ (World.drew _)
  go_wp2_with fail
  go_ret
  exact ⟨rfl, ⟨_, StAt.put (s := s) (show StAt _ sb s from HS2.out) D hD5 v, HE.out⟩, (HK2.out.drew).trans (Keeps.one _ _ _ _) (fun _ _ h => h)⟩
end Go.Proofs.YtlbdkcnbgdmpaaaGreatDoor
