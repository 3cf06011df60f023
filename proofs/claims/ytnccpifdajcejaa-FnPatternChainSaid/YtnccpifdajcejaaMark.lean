/- Copies of vertices whose lists are rows of their own, each another one; marking them. No condition but sizes. -/
import Derived.Test.YtnccpifdajcejaaVertC
import Derived.Test.YtnccpifdajcejaaLawB
import Derived.Test.YtnccpifdajcejaaPush
namespace Go.Proofs.Ytnccpifdajcejaa
open Go.RowKit

theorem size_set' (w : World) (p : Addr) (v : Value) : (w.setCell p v).heap.size = w.heap.size := by simp
theorem own_below2 {w w' : World} {B : Nat} {e : TypeId} {z n : Nat} {v : Value} {xs : List Value} (h : w.ownsRow B e z v n xs) (hb : Below w.heap.size w w') : w'.ownsRow B e z v n xs :=
  h.kept (row := none) ⟨hb.os, hb.tape, hb.output, hb.size, fun i hi _ => hb.block i hi⟩ (by cases hv : v.ownBlock <;> simp)
/-- the first k vertices lie in the row's cells L, each list a row of its own below H -/
def RowOw (w : World) (g H : Nat) (vs : List Vx) (L : List Value) (k : Nat) : Prop :=
  (∀ i v, i < k → vs[i]? = some v → ∃ U V, L[i * 2]? = some U ∧ L[i * 2 + 1]? = some V ∧ Own w (g + 1) U v.1 ∧ Own w (g + 1) V v.2) ∧
  (∀ i j U V, i < j → j < k * 2 → L[i]? = some U → L[j]? = some V → V.ownBlock = none ∨ V.ownBlock ≠ U.ownBlock) ∧
  (∀ i U q, i < k * 2 → L[i]? = some U → U.ownBlock = some q → q < H)
theorem RowOw.zero (w : World) (g H : Nat) (vs : List Vx) (L : List Value) : RowOw w g H vs L 0 := ⟨fun i v hi => by omega, fun i j U V _ hj => by omega, fun i U q hi => by omega⟩
theorem RowOw.below {w w' : World} {g H : Nat} {vs : List Vx} {L : List Value} {k : Nat} (h : RowOw w g H vs L k) (hb : Below w.heap.size w w') : RowOw w' g H vs L k := by
  refine ⟨fun i v hi hv => ?_, h.2.1, h.2.2⟩
  obtain ⟨U, V, e1, e2, e3, e4⟩ := h.1 i v hi hv
  exact ⟨U, V, e1, e2, own_below2 e3 hb, own_below2 e4 hb⟩
theorem RowOw.far {w : World} {g H : Nat} {vs : List Vx} {L : List Value} {k : Nat} (h : RowOw w g H vs L k) {i : Nat} {u : Value} : RowOw (w.setCell ⟨g, i, none⟩ u) g H vs L k := by
  refine ⟨fun i v hi hv => ?_, h.2.1, h.2.2⟩
  obtain ⟨U, V, e1, e2, e3, e4⟩ := h.1 i v hi hv
  exact ⟨U, V, e1, e2, own_far e3 (by omega) _ _, own_far e4 (by omega) _ _⟩
theorem RowOw.rowTo {w : World} {g H : Nat} {vs : List Vx} {L : List Value} {k : Nat} (h : RowOw w g H vs L k) : RowTo w g vs L k := by
  intro i v hi hv
  obtain ⟨U, V, e1, e2, e3, e4⟩ := h.1 i v hi hv
  exact ⟨U, V, e1, e2, IntsA.of_own e3 (by omega), IntsA.of_own e4 (by omega)⟩
theorem RowOw.next {w : World} {g H : Nat} {vs : List Vx} {L : List Value} {k : Nat} (h : RowOw w g H vs L k) {xs cs : List Int} {U V : Value} (hL : k * 2 + 1 < L.length) (hk : vs[k]? = some (xs, cs)) (hU : Own w H U xs) (hV : Own w H V cs) (hUV : U.ownBlock = none ∨ U.ownBlock ≠ V.ownBlock) (hg : g < H) (hH : H ≤ w.heap.size) :
    RowOw w g w.heap.size vs ((L.set (k * 2) U).set (k * 2 + 1) V) (k + 1) := by
  obtain ⟨h1, h2, h3⟩ := h
  have get : ∀ i X, i < (k + 1) * 2 → ((L.set (k * 2) U).set (k * 2 + 1) V)[i]? = some X → (i < k * 2 ∧ L[i]? = some X) ∨ (i = k * 2 ∧ X = U) ∨ (i = k * 2 + 1 ∧ X = V) := by
    intro i X hi hX
    by_cases e1 : i = k * 2 + 1
    · subst e1
      rw [List.getElem?_set_self (by rw [List.length_set]; omega)] at hX
      exact Or.inr (Or.inr ⟨rfl, (Option.some.inj hX).symm⟩)
    · rw [List.getElem?_set_ne (by omega)] at hX
      by_cases e2 : i = k * 2
      · subst e2
        rw [List.getElem?_set_self (by omega)] at hX
        exact Or.inr (Or.inl ⟨rfl, (Option.some.inj hX).symm⟩)
      · rw [List.getElem?_set_ne (by omega)] at hX
        exact Or.inl ⟨by omega, hX⟩
  refine ⟨fun i v hi hv => ?_, fun i j X Y hij hj hX hY => ?_, fun i X q hi hX hq => ?_⟩
  · by_cases e : i = k
    · subst e
      rw [hk] at hv
      have hv2 := Option.some.inj hv
      subst hv2
      refine ⟨U, V, ?_, ?_, own_lower' hU (by omega), own_lower' hV (by omega)⟩
      · rw [List.getElem?_set_ne (by omega), List.getElem?_set_self (by omega)]
      · rw [List.getElem?_set_self (by rw [List.length_set]; omega)]
    · obtain ⟨X, Y, e1, e2, e3, e4⟩ := h1 i v (by omega) hv
      refine ⟨X, Y, ?_, ?_, e3, e4⟩
      · rw [List.getElem?_set_ne (by omega), List.getElem?_set_ne (by omega)]; exact e1
      · rw [List.getElem?_set_ne (by omega), List.getElem?_set_ne (by omega)]; exact e2
  · have low : ∀ i X, i < k * 2 → L[i]? = some X → ∀ Z : Value, (∀ q, Z.ownBlock = some q → H ≤ q) → Z.ownBlock = none ∨ Z.ownBlock ≠ X.ownBlock := by
      intro i X hi hX Z hZ
      cases hz : Z.ownBlock with
      | none => exact Or.inl rfl
      | some q =>
        right
        intro e
        have a1 := hZ q hz
        have a2 := h3 i X q hi hX e.symm
        omega
    rcases get i X (by omega) hX with ⟨a1, a2⟩ | ⟨a1, a2⟩ | ⟨a1, a2⟩ <;> rcases get j Y hj hY with ⟨b1, b2⟩ | ⟨b1, b2⟩ | ⟨b1, b2⟩
    · exact h2 i j X Y hij b1 a2 b2
    · subst b2; exact low i X a1 a2 _ (fun q hq => (hU.lt q hq).1)
    · subst b2; exact low i X a1 a2 _ (fun q hq => (hV.lt q hq).1)
    · omega
    · omega
    · subst a2 b2
      rcases hUV with e | e
      · cases hy : Y.ownBlock with
        | none => exact Or.inl rfl
        | some q => right; rw [e]; simp
      · exact Or.inr (fun e2 => e e2.symm)
    · omega
    · omega
    · omega
  · rcases get i X hi hX with ⟨a1, a2⟩ | ⟨a1, a2⟩ | ⟨a1, a2⟩
    · have := h3 i X q a1 a2 hq; omega
    · subst a2; exact (hU.lt q hq).2
    · subst a2; exact (hV.lt q hq).2


end Go.Proofs.Ytnccpifdajcejaa
