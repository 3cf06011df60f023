/- What the rows' own reading of a slice of bytes gives the walks. No condition. -/
import Derived.Test.YtngpeehjjcgmmaaRead
namespace Go.Proofs.Ytngpeehjjcgmmaa
open Go.RowKit

theorem codes_of_row {w : World} {a : Option Addr} {len cap : Nat} {zs : List Int}
    (h : (a = none ∧ len = 0 ∧ cap = 0 ∧ zs = []) ∨
      ∃ x, a = some x ∧ len ≤ cap ∧ cap ≤ maxLen ∧ zs.length = cap ∧ (∀ i, i < zs.length → w.cell? (x.add i) = some (.int .u8 (zs.getD i 0))) ∧ ∀ n ∈ zs, (Lit.int .u8 n).wf = true) :
    ∃ bs : List UInt8, bs.length = len ∧ Codes w w.heap.size a bs ∧ len ≤ cap ∧ cap ≤ maxLen := by
  rcases h with ⟨rfl, rfl, rfl, rfl⟩ | ⟨x, rfl, hl, hm, hz, hc, hw⟩
  · exact ⟨[], rfl, fun h => absurd rfl h, Nat.le_refl _, by unfold maxLen; omega⟩
  · refine ⟨(zs.take len).map (fun n => UInt8.ofNat n.toNat), by rw [List.length_map, List.length_take]; omega, fun hn => ?_, hl, hm⟩
    have h0 : 0 < zs.length := by
      cases zs with
      | nil => simp at hn
      | cons y r => simp
    obtain ⟨b, off, sp⟩ := x
    have c0 := hc 0 h0
    have hsp : sp = none := by simpa [Addr.add] using World.cell?_spot c0
    subst hsp
    refine ⟨b, off, rfl, World.block_lt_of_cell? _ _ c0, fun k c hk => ?_⟩
    rw [List.getElem?_map, List.getElem?_take] at hk
    split at hk
    · next hk' =>
      have hkz : k < zs.length := by omega
      have := hc k hkz
      rw [Addr.add_lit] at this
      rw [this]
      rw [List.getElem?_eq_getElem hkz] at hk
      simp only [Option.map_some, Option.some.injEq] at hk
      have hwk := hw zs[k] (List.getElem_mem hkz)
      have hb : 0 ≤ zs[k] ∧ zs[k] < 256 := by
        simp [Lit.wf, IntKind.min, IntKind.max, IntKind.bits, IntKind.signed] at hwk
        omega
      rw [List.getD_eq_getElem?_getD, List.getElem?_eq_getElem hkz, ← hk]
      simp only [Option.getD_some]
      congr 2
      rw [UInt8.toNat_ofNat_of_lt' (by simp [UInt8.size]; omega)]
      omega
    · cases hk

end Go.Proofs.Ytngpeehjjcgmmaa
