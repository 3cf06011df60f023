/- The drawn angles: 'l91Angles'. No condition but sizes. -/
import Derived.Test.YtnckbiacfnokiaaDrawA
import Derived.Test.YtnckbiacfnokiaaSeg
namespace Go.Proofs.Ytnckbiacfnokiaa
open Go.RowKit

theorem Rd.drewN {w : World} {r : Nat} {A : Option Addr} {cap : Nat} {bs : List UInt8} {q : Nat} (h : Rd w r A cap bs q) (n : Nat) : Rd (w.drewN n) r A cap bs q := ⟨h.blk, h.codes, h.len⟩
theorem grown_fresh {w w1 w2 : World} (h1 : Below w.heap.size w w1) (h2 : w1.grownBy w2 (some w.heap.size)) (hs : w.heap.size < w1.heap.size) : Below w.heap.size w w2 :=
  ⟨h2.os.trans h1.os, h2.tape.trans h1.tape, h2.output.trans h1.output, Nat.le_trans h1.size h2.size, fun k hk => (h2.block k (by omega) (by intro e; have := Option.some.inj e; omega)).trans (h1.block k hk)⟩
theorem made_ints (n : Nat) : (madeCells (Value.int .i64 0).cells (n * 1)).toList = (List.replicate n (0 : Int)).map (Value.int .i64) := by
  apply List.ext_getElem
  · simp [madeCells]
  · intro i h1 h2
    simp [madeCells, Value.cells, Nat.mod_one]

theorem ret_slice {A : Option Addr} {n m c : Nat} (h : n = m) : Ending.returned (.slice A n c) = .returned (.slice A m c) := by rw [h]

/-- a slice that reads as a list, its cells in blocks from H on, none of them r -/
def AwayF (w : World) (H r : Nat) (A : Option Addr) (xs : List Int) : Prop := xs ≠ [] → ∃ b off, A = some ⟨b, off, none⟩ ∧ H ≤ b ∧ b ≠ r ∧ b < w.heap.size ∧ ∀ k x, xs[k]? = some x → w.cell? ⟨b, off + k, none⟩ = some (.int .i64 x)
theorem AwayF.nil (w : World) (H r : Nat) (A : Option Addr) : AwayF w H r A [] := fun h => absurd rfl h
theorem AwayF.away {w : World} {H r : Nat} {A : Option Addr} {xs : List Int} (h : AwayF w H r A xs) : Away w r A xs := fun hn => by
  obtain ⟨b, off, e, _, h1, h2, h3⟩ := h hn
  exact ⟨b, off, e, h1, h2, h3⟩
theorem Seg.awayF {w : World} {B g off cap r : Nat} {xs : List Int} {cur : Array Value} (h : Seg w B g off cap xs cur) (hr : r < B) : AwayF w B r (some ⟨g, off, none⟩) xs :=
  fun _ => ⟨g, off, rfl, h.lo, by have := h.lo; omega, h.blk.lt, fun k x hk => (h.blk.cell (off + k)).trans (h.at_ k x hk)⟩
end Go.Proofs.Ytnckbiacfnokiaa
