/- The laws' own helpers on vertices: a comparison; a copy reads as the vertices that it is of. No condition but sizes. -/
import Derived.Test.YtnccpifdajcejaaVertB
namespace Go.Proofs.Ytnccpifdajcejaa
open Go.RowKit

theorem RowV.verts {w : World} {B g : Nat} {vs : List Vx} {L : List Value} (h : RowV w B g vs.length L) (ht : RowTo w g vs L vs.length) : Verts w (some ⟨g, 0, none⟩) vs := by
  intro hn
  refine ⟨g, 0, rfl, (h.lt _ rfl).2, fun k v hk => ?_⟩
  have hkl : k < vs.length := (List.getElem?_eq_some_iff.1 hk).1
  obtain ⟨U, V, e1, e2, e3, e4⟩ := ht k v hkl hk
  refine ⟨U, V, ?_, ?_, e3.intsV, e4.intsV⟩
  · rw [Nat.zero_add, h.cellAt (k * 2) (by omega), e1]
  · rw [Nat.zero_add, h.cellAt (k * 2 + 1) (by omega), e2]


end Go.Proofs.Ytnccpifdajcejaa
