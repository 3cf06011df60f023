/- The laws' own helpers on vertices: a copy, a comparison. No condition but sizes. -/
import Derived.Laws.OwnMore
import Derived.Test.YtnccpifdajcejaaVert
import Derived.Test.YtnccpifdajcejaaSeg
namespace Go.Proofs.Ytnccpifdajcejaa
open Go.RowKit

theorem own_lower' {w : World} {B B' : Nat} {e : TypeId} {z n : Nat} {v : Value} {xs : List Value} (h : w.ownsRow B e z v n xs) (hB : B' ≤ B) : w.ownsRow B' e z v n xs := by
  obtain ⟨h1, h2⟩ := h
  refine ⟨h1, ?_⟩
  rcases h2 with h0 | ⟨g, cap, cur, e1, hb, rest⟩
  · exact Or.inl h0
  · exact Or.inr ⟨g, cap, cur, e1, by omega, rest⟩
theorem own_far {w : World} {B g : Nat} {v : Value} {xs : List Int} (h : Own w B v xs) (hg : g < B) (i : Nat) (u : Value) : Own (w.setCell ⟨g, i, none⟩ u) B v xs :=
  h.kept (row := some g) ⟨rfl, rfl, rfl, by simp, fun k _ hk => heap_setCell_other w ⟨g, i, none⟩ k _ (fun e => hk (by have e' : k = g := e; rw [e']))⟩ (by
    cases hv : v.ownBlock with
    | none => exact Or.inl rfl
    | some k =>
      right
      intro e
      have e2 := Option.some.inj e
      have := (h.lt k hv).1
      omega)
theorem size_alloc' (w : World) (o : Obj) : (w.alloc o).heap.size = w.heap.size + 1 := by simp

/-- a slice of integers as a value, no cell of it in block g -/
def IntsA (w : World) (g : Nat) (V : Value) (xs : List Int) : Prop := ∃ A c, V = .slice A xs.length c ∧ Away w g A xs ∧ xs.length ≤ c ∧ c ≤ maxLen
theorem IntsA.of_own {w : World} {B g : Nat} {v : Value} {xs : List Int} (h : Own w B v xs) (hg : g < B) : IntsA w g v xs := by
  obtain ⟨A, c, e, hI, h1, h2⟩ := h.form
  refine ⟨A, c, e, fun hn => ?_, h1, h2⟩
  obtain ⟨b, off, eA, hb, hc⟩ := hI hn
  refine ⟨b, off, eA, ?_, hb, hc⟩
  rcases h.2 with ⟨_, hz⟩ | ⟨gg, cp, cu, hv, hbg, _⟩
  · exact absurd (List.eq_nil_of_length_eq_zero hz) hn
  · rw [e] at hv
    injection hv with hv1
    rw [eA] at hv1
    injection hv1 with hv1
    injection hv1 with hv1
    omega
theorem IntsA.grown {w w' : World} {g : Nat} {V : Value} {xs : List Int} (h : IntsA w g V xs) (hg : w.grownBy w' (some g)) : IntsA w' g V xs := by
  obtain ⟨A, c, e, hA, h1, h2⟩ := h
  exact ⟨A, c, e, hA.grown hg, h1, h2⟩
theorem IntsA.below {w w' : World} {g : Nat} {V : Value} {xs : List Int} (h : IntsA w g V xs) (hg : Below w.heap.size w w') : IntsA w' g V xs := by
  obtain ⟨A, c, e, hA, h1, h2⟩ := h
  exact ⟨A, c, e, hA.below hg, h1, h2⟩
theorem IntsA.intsV {w : World} {g : Nat} {V : Value} {xs : List Int} (h : IntsA w g V xs) : IntsV w V xs := by
  obtain ⟨A, c, e, hA, h1, h2⟩ := h
  exact ⟨A, c, e, hA.ints, h1, h2⟩
/-- the first k vertices lie in the row's cells L -/
def RowTo (w : World) (g : Nat) (vs : List Vx) (L : List Value) (k : Nat) : Prop :=
  ∀ i v, i < k → vs[i]? = some v → ∃ U V, L[i * 2]? = some U ∧ L[i * 2 + 1]? = some V ∧ IntsA w g U v.1 ∧ IntsA w g V v.2
abbrev RowV (w : World) (B g n : Nat) (L : List Value) : Prop := w.ownsRow B 30 2 (.slice (some ⟨g, 0, none⟩) n n) n L


end Go.Proofs.Ytnccpifdajcejaa
