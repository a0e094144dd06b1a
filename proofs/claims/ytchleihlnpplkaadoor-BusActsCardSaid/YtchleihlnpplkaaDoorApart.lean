/- The walk of the law BusApart. -/
import Derived.Test.YtchleihlnpplkaaDoorBused
namespace Go.Proofs.YtchleihlnpplkaaDoor
open Go.RowKit Go.Deep
set_option linter.unusedVariables false

/-- a slice of records of k cells each -/
def RecReads (w : World) (A : Option Addr) (n cap k : Nat) (f : Nat → Nat → Value) : Prop :=
  n ≤ cap ∧ (cap = 0 ∨ ∃ b o, A = some ⟨b, o, none⟩ ∧ b < w.heap.size ∧ ∀ i, i < n → ∀ j, j < k → w.cell? ⟨b, o + i * k + j, none⟩ = some (f i j))
theorem RecReads.keep {S : Nat → Prop} {w w' : World} {A : Option Addr} {n cap k : Nat} {f : Nat → Nat → Value} (h : RecReads w A n cap k f) (hk : Keeps S w w') (hS : ∀ b, b < w.heap.size → A.map (·.block) = some b → ¬ S b) : RecReads w' A n cap k f := by
  obtain ⟨h1, h2 | ⟨b, o, rfl, hb, hc⟩⟩ := h
  · exact ⟨h1, .inl h2⟩
  · exact ⟨h1, .inr ⟨b, o, rfl, Nat.lt_of_lt_of_le hb hk.size, fun i hi j hj => hk.cell' (hc i hi j hj) (hS b hb rfl)⟩⟩
/-- an act's cells -/
def actC (st sg : Nat → Bool) (ad sz vv ct : Nat → Int) (i : Nat) : Nat → Value
  | 0 => .bool (st i)
  | 1 => .int .u32 (ad i)
  | 2 => .int .i64 (sz i)
  | 3 => .bool (sg i)
  | 4 => .int .u32 (vv i)
  | _ => .int .i64 (ct i)

/-- the blocks of a bus and of a Ram beside it -/
structure ApB (w0 : World) (D b r pb pw ph r2 pb2 pw2 ph2 : Nat) : Prop where
  low : w0.heap.size ≤ b ∧ w0.heap.size ≤ r ∧ w0.heap.size ≤ pb ∧ w0.heap.size ≤ pw ∧ w0.heap.size ≤ ph ∧ w0.heap.size ≤ r2 ∧ w0.heap.size ≤ pb2 ∧ w0.heap.size ≤ pw2 ∧ w0.heap.size ≤ ph2
  high : b < D ∧ r < D ∧ pb < D ∧ pw < D ∧ r2 < D ∧ pb2 < D ∧ pw2 < D
  a1 : b ≠ r ∧ b ≠ pb ∧ b ≠ pw ∧ b ≠ r2 ∧ b ≠ pb2 ∧ b ≠ pw2
  a2 : r ≠ pb ∧ r ≠ pb2 ∧ pw ≠ pb ∧ pw ≠ pb2 ∧ r2 ≠ pb ∧ r2 ≠ pb2 ∧ pw2 ≠ pb ∧ pw2 ≠ pb2 ∧ pb ≠ pb2
structure ApInv (w0 : World) (D b r pb pw ph r2 pb2 pw2 ph2 : Nat) (wr : World) (m : Nat → Int) (ov : Value) (on : Nat) (l : List UInt8) (lamp : Int) (tv : Value) (tn : Nat) (tb : List Value) : Prop where
  keeps : Keeps (fun _ => False) w0 wr
  bus : BusAt wr b r ov on (byteVals l) lamp tv tn tb
  ram : RamAt wr r pb pw ph 16384 m
  watch : wr.heap[pw]? = some (.map #[] 0)
  ram2 : RamAt wr r2 pb2 pw2 ph2 16384 m
  watch2 : wr.heap[pw2]? = some (.map #[] 0)
  own1 : ∀ k, ov.ownBlock = some k → D ≤ k
  own2 : ∀ k, tv.ownBlock = some k → D ≤ k
  size : D ≤ wr.heap.size
  one : oneCells tb
  cnt : on ≤ tn
variable {w0 wr w1 w2 : World} {D b r pb pw ph r2 pb2 pw2 ph2 : Nat} {m : Nat → Int} {ov : Value} {on : Nat} {l : List UInt8} {lamp : Int} {tv : Value} {tn : Nat} {tb : List Value}
theorem ApInv.quiet (I : ApInv w0 D b r pb pw ph r2 pb2 pw2 ph2 wr m ov on l lamp tv tn tb) (k : Keeps (fun _ => False) wr w1) : ApInv w0 D b r pb pw ph r2 pb2 pw2 ph2 w1 m ov on l lamp tv tn tb where
  keeps := I.keeps.trans k (fun _ _ h => h)
  bus := I.bus.keep k (fun h => h) (fun _ _ h => h) (fun _ _ h => h)
  ram := I.ram.keep k (fun h => h) (fun h => h)
  watch := k.map I.watch (fun h => h)
  ram2 := I.ram2.keep k (fun h => h) (fun h => h)
  watch2 := k.map I.watch2 (fun h => h)
  own1 := I.own1
  own2 := I.own2
  size := Nat.le_trans I.size k.size
  one := I.one
  cnt := I.cnt
/-- both memories take the same store -/
theorem ApInv.both (N : ApB w0 D b r pb pw ph r2 pb2 pw2 ph2) (I : ApInv w0 D b r pb pw ph r2 pb2 pw2 ph2 wr m ov on l lamp tv tn tb) {m' : Nat → Int}
    (R1 : RamAt w1 r pb pw ph 16384 m') (k1 : Keeps (· = pb) wr w1) (R2 : RamAt w2 r2 pb2 pw2 ph2 16384 m') (k2 : Keeps (· = pb2) w1 w2) : ApInv w0 D b r pb pw ph r2 pb2 pw2 ph2 w2 m' ov on l lamp tv tn tb := by
  obtain ⟨⟨l1, l2, l3, l4, l5, l6, l7, l8, l9⟩, ⟨h1, h2, h3, h4, h5, h6, h7⟩, ⟨a1, a2, a3, a4, a5, a6⟩, ⟨b1, b2, b3, b4, b5, b6, b7, b8, b9⟩⟩ := N
  have hk := I.keeps.size
  have k12 : Keeps (fun k => k = pb ∨ k = pb2) wr w2 := Keeps.trans (k1.mono (fun k _ h => .inl h)) k2 (fun k _ h => .inr h)
  exact {
    keeps := I.keeps.trans k12 (fun k hk h => by rcases h with h | h <;> omega)
    bus := I.bus.keep k12 (by omega) (fun g hg h => by have := I.own1 g hg; omega) (fun g hg h => by have := I.own2 g hg; omega)
    ram := R1.keep k2 b2 b9
    watch := k12.map I.watch (by omega)
    ram2 := R2
    watch2 := k12.map I.watch2 (by omega)
    own1 := I.own1
    own2 := I.own2
    size := Nat.le_trans I.size k12.size
    one := I.one
    cnt := I.cnt }
/-- a device was reached -/
theorem ApInv.dev (N : ApB w0 D b r pb pw ph r2 pb2 pw2 ph2) (I : ApInv w0 D b r pb pw ph r2 pb2 pw2 ph2 wr m ov on l lamp tv tn tb) {ov' tv' : Value} {on' : Nat} {l' : List UInt8} {lamp' : Int} {c : Int} {s : Bool} {a v : Int}
    (B : BusAt w1 b r ov' on' (byteVals l') lamp' tv' (tn + 1) (tb ++ accC c s a v)) (m1 : Moved wr ov ov') (m2 : Moved wr tv tv') (k : Keeps (busS b ov tv) wr w1) (ho : on' ≤ tn + 1) :
    ApInv w0 D b r pb pw ph r2 pb2 pw2 ph2 w1 m ov' on' l' lamp' tv' (tn + 1) (tb ++ accC c s a v) := by
  obtain ⟨⟨l1, l2, l3, l4, l5, l6, l7, l8, l9⟩, ⟨h1, h2, h3, h4, h5, h6, h7⟩, ⟨a1, a2, a3, a4, a5, a6⟩, ⟨b1, b2, b3, b4, b5, b6, b7, b8, b9⟩⟩ := N
  have hk := I.keeps.size
  have hs := I.size
  have hno : ∀ x, x < D → x ≠ b → ¬ busS b ov tv x := by
    intro x hx hb h
    rcases h with h | h | h
    · exact hb h
    · have := I.own1 x h; omega
    · have := I.own2 x h; omega
  have hmv : ∀ {v v' : Value}, Moved wr v v' → (∀ k, v.ownBlock = some k → D ≤ k) → ∀ k, v'.ownBlock = some k → D ≤ k := by
    intro v v' h hv k hk
    rcases h with h | h
    · exact hv k (h ▸ hk)
    · have := h k hk; omega
  exact {
    keeps := I.keeps.trans k (fun x hx h => by
      rcases h with h | h | h
      · omega
      · have := I.own1 x h; omega
      · have := I.own2 x h; omega)
    bus := B
    ram := I.ram.keep k (hno _ h2 (by omega)) (hno _ h3 (by omega))
    watch := k.map I.watch (hno _ h4 (by omega))
    ram2 := I.ram2.keep k (hno _ h5 (by omega)) (hno _ h6 (by omega))
    watch2 := k.map I.watch2 (hno _ h7 (by omega))
    own1 := hmv m1 I.own1
    own2 := hmv m2 I.own2
    size := Nat.le_trans I.size k.size
    one := I.one.add c s a v
    cnt := ho }
end Go.Proofs.YtchleihlnpplkaaDoor
