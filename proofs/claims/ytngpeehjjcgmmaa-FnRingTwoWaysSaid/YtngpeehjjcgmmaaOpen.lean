/- What the rows' own reading of a slice of integers gives the walks. No condition. -/
import Derived.Test.YtngpeehjjcgmmaaBase
namespace Go.Proofs.Ytngpeehjjcgmmaa
open Go.RowKit

theorem ints_of_row {w : World} {a : Option Addr} {len cap : Nat} {zs : List Int}
    (h : (a = none ∧ len = 0 ∧ cap = 0 ∧ zs = []) ∨
      ∃ x, a = some x ∧ len ≤ cap ∧ cap ≤ maxLen ∧ zs.length = cap ∧ (∀ i, i < zs.length → w.cell? (x.add i) = some (.int .i64 (zs.getD i 0))) ∧ ∀ n ∈ zs, (Lit.int .i64 n).wf = true) :
    ∃ xs : List Int, xs.length = len ∧ Ints w a xs ∧ len ≤ cap ∧ cap ≤ maxLen := by
  rcases h with ⟨rfl, rfl, rfl, rfl⟩ | ⟨x, rfl, hl, hm, hz, hc, _⟩
  · exact ⟨[], rfl, Ints.nil _ _, Nat.le_refl _, by unfold maxLen; omega⟩
  · refine ⟨zs.take len, by rw [List.length_take]; omega, fun hn => ?_, hl, hm⟩
    have h0 : 0 < zs.length := by
      cases zs with
      | nil => simp at hn
      | cons y r => simp
    obtain ⟨b, off, sp⟩ := x
    have c0 := hc 0 h0
    have hsp : sp = none := by simpa [Addr.add] using World.cell?_spot c0
    subst hsp
    refine ⟨b, off, rfl, World.block_lt_of_cell? _ _ c0, fun k y hy => ?_⟩
    rw [List.getElem?_take] at hy
    split at hy
    · next hk =>
      have hkz : k < zs.length := by
        rcases Nat.lt_or_ge k zs.length with hlt | hge
        · exact hlt
        · rw [List.getElem?_eq_none hge] at hy; cases hy
      have := hc k hkz
      rw [Addr.add_lit] at this
      rw [this, List.getD_eq_getElem?_getD, hy]
      rfl
    · cases hy

end Go.Proofs.Ytngpeehjjcgmmaa
