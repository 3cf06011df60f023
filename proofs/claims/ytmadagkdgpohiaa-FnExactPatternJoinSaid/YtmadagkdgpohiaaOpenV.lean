/- What the rows' own reading of a slice of vertices gives the walks. No condition. -/
import Derived.Deep.SlicePairs
import Derived.ProofKit
import Derived.OpenShut
import Derived.Test.YtmadagkdgpohiaaOpen
import Derived.Test.YtmadagkdgpohiaaVert
namespace Go.Proofs.Ytmadagkdgpohiaa
open Go.ChangeShapes Go.WideShapes Go.ChangeAt Go.RowKit

theorem intsV_of_trod {H : Type} {enc : TypeId × Value → H} {W : World} {fuel : Nat} {V : Value} {x : DataW H × List MemPlace} (h : DataW.trod enc Try.prog W 0 (fun _ => true) true fuel 30 [V] = some x) : ∃ xs, IntsV W V xs := by
  rcases open_ints Try.underlying30 Try.underlying3 (by kernel_rfl) h with ⟨hcs, _⟩ | ⟨a, len, cap, zs, hcs, _, hl, hm, hz, _, hcell, hwz⟩
  · have e : V = .slice none 0 0 := by simpa using hcs
    subst e
    exact ⟨[], none, 0, rfl, Ints.nil _ _, Nat.le_refl _, by unfold maxLen; omega⟩
  · have e : V = .slice (some a) len cap := by simpa using hcs
    subst e
    obtain ⟨xs, rfl, hI, hc, hm2⟩ := ints_of_row (w := W) (a := some a) (len := len) (cap := cap) (zs := zs) (Or.inr ⟨a, rfl, hl, hm, by simpa using hz, hcell, hwz⟩)
    exact ⟨xs, some a, cap, rfl, hI, hc, hm2⟩
theorem verts_of_trod {H : Type} {enc : TypeId × Value → H} {W : World} {fuel len0 cap0 : Nat} {a0 : Option Addr} {x : DataW H × List MemPlace} (h : DataW.trod enc Try.prog W 0 (fun _ => true) true fuel 22 [.slice a0 len0 cap0] = some x) :
    ∃ vs : List Vx, vs.length = len0 ∧ Verts W a0 vs ∧ len0 ≤ cap0 ∧ cap0 ≤ maxLen := by
  rcases Go.Deep.open_slice_pairs Try.underlying22 Try.underlying47 (by kernel_rfl) rfl rfl (by kernel_rfl) (by kernel_rfl) h with ⟨hcs, _⟩ | ⟨a, len, cap, m, n, V0, V1, D0, D1, P0, P1, hcs, _, hl, hm, hmm, _, hi⟩
  · simp at hcs
    obtain ⟨rfl, rfl, rfl⟩ := hcs
    exact ⟨[], rfl, fun h => absurd rfl h, Nat.le_refl _, by unfold maxLen; omega⟩
  · simp at hcs
    obtain ⟨rfl, rfl, rfl⟩ := hcs
    have hmc : m = cap0 := by simpa using hmm
    have each : ∀ i, i < len0 → ∃ v : Vx, IntsV W (V0 i) v.1 ∧ IntsV W (V1 i) v.2 := by
      intro i hil
      obtain ⟨_, _, h0, h1⟩ := hi i (by omega)
      obtain ⟨xs, hx⟩ := intsV_of_trod h0
      obtain ⟨ys, hy⟩ := intsV_of_trod h1
      exact ⟨(xs, ys), hx, hy⟩
    obtain ⟨q, hq⟩ := Go.Deep.choose_lt each
    refine ⟨(List.range len0).map q, by simp, fun hn => ?_, hl, hm⟩
    have h0 : 0 < len0 := by
      cases len0 with
      | zero => simp at hn
      | succ n => omega
    obtain ⟨b, off, sp⟩ := a
    have c0 := (hi 0 (by omega)).1
    have hsp : sp = none := by simpa [Addr.add] using World.cell?_spot c0
    subst hsp
    refine ⟨b, off, rfl, World.block_lt_of_cell? _ _ c0, fun k v hk => ?_⟩
    have hkl : k < len0 := by
      have := (List.getElem?_eq_some_iff.1 hk).1
      simpa using this
    have hv : v = q k := by simpa [hkl] using hk.symm
    obtain ⟨e0, e1, _, _⟩ := hi k (by omega)
    rw [Addr.add_lit] at e0 e1
    refine ⟨V0 k, V1 k, e0, by rw [← Nat.add_assoc] at e1; exact e1, ?_, ?_⟩
    · rw [hv]; exact (hq k hkl).1
    · rw [hv]; exact (hq k hkl).2
end Go.Proofs.Ytmadagkdgpohiaa
