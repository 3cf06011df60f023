/- The reference's VertexCrimps and VertexCrimp: as the program's. No condition but sizes. -/
import Derived.Test.YtmadagkdgpohiaaSpecF
import Derived.Test.YtmadagkdgpohiaaImplD
namespace Go.Proofs.Ytmadagkdgpohiaa
open Go.RowKit

theorem angles_ext {xs ys : List Int} (h : xs.length = ys.length) (ha : ∀ k, k < xs.length → angleAt xs k = angleAt ys k) : xs = ys := by
  apply List.ext_getElem h
  intro k h1 h2
  have := ha k h1
  unfold angleAt at this
  simpa [List.getD_eq_getElem?_getD, h1, h2] using this
theorem bytes_ext {s t : ByteArray} (h : s.size = t.size) (ha : ∀ k, k < s.size → byteAt s k = byteAt t k) : s = t := by
  apply ByteArray.ext
  apply Array.ext'
  apply List.ext_getElem
  · simpa using h
  · intro k h1 h2
    have := ha k (by simpa using h1)
    unfold byteAt at this
    rw [List.getD_eq_getElem?_getD, List.getD_eq_getElem?_getD, List.getElem?_eq_getElem h1, List.getElem?_eq_getElem h2] at this
    exact UInt8.toNat_inj.1 this
theorem crimped_eq {xs : List Int} {s : ByteArray} {i : Nat} {xs' : List Int} {s' : ByteArray} (h : Crimped xs s i xs' s') : xs' = vcrX xs i ∧ s' = vcrF xs s i := by
  refine ⟨angles_ext ?_ fun k hk => ?_, bytes_ext ?_ fun k hk => ?_⟩
  · rw [h.len]; unfold vcrX; rw [angTo_len]
  · rw [h.len] at hk
    rw [h.angle k hk]
    unfold vcrX
    rw [angleAt_angTo _ hk]
  · rw [h.size]; unfold vcrF; simp [ByteArray.size, folTo_len]
  · rw [h.size] at hk
    rw [h.fold k hk]
    unfold vcrF
    exact (byteAt_folTo (fun k => byteAt s (sig xs.length i k)) hk (byteAt_lt _ _)).symm

set_option maxHeartbeats 800000 in
theorem spec_VertexCrimps (A : Option Addr) (cap : Nat) (xs : List Int) (s : ByteArray) (w : World) (h : Ints w A xs) (hl : xs.length ≤ maxLen) (hs : s.size ≤ maxLen) :
    Calls Try.prog 49 #[.slice A xs.length cap, .string s] w fun e w' => ∃ v, e = .returned v ∧ Own w' w.heap.size v (vcL xs s) ∧ Below w.heap.size w w' := by
  cases hv : avB xs with
  | false =>
    have HV := Lib.hid hv; clear hv
    go_enter Try.func49, Try.ntmps49
    go_wp2_with fail
    refine (spec_AnglesValid A cap xs w h hl).mono ?_
    rintro e w' ⟨rfl, rfl⟩
    rw [HV.out]
    go_wp2_with fail
    go_ret
    exact ⟨_, rfl, by unfold vcL; rw [HV.out]; exact own_empty w (Nat.le_refl _), (Below.refl _ _).alloc (Nat.le_refl _) _⟩
  | true =>
    obtain ⟨_, h2, h10, hx, _⟩ := avB_parts hv
    have HV := Lib.hid hv; clear hv
    clear hx
    cases hf : fvB s.data.toList xs.length with
    | false =>
      have HF := Lib.hid hf; clear hf
      go_enter Try.func49, Try.ntmps49
      go_wp2_with fail
      refine (spec_AnglesValid A cap xs w h hl).mono ?_
      rintro e w' ⟨rfl, rfl⟩
      rw [HV.out]
      go_wp2_with fail
      refine (spec_FoldsValid s xs.length w hs).mono ?_
      rintro e w' ⟨rfl, rfl⟩
      rw [HF.out]
      go_wp2_with fail
      go_ret
      exact ⟨_, rfl, by unfold vcL; rw [HV.out, HF.out]; exact own_empty w (Nat.le_refl _), (Below.refl _ _).alloc (Nat.le_refl _) _⟩
    | true =>
      have hsz := fvB_size hf
      have HF := Lib.hid hf; clear hf
      have HS := Lib.hid hsz; clear hsz
      go_enter Try.func49, Try.ntmps49
      go_wp2_with fail
      refine (spec_AnglesValid A cap xs w h hl).mono ?_
      rintro e w' ⟨rfl, rfl⟩
      rw [HV.out]
      go_wp2_with fail
      refine (spec_FoldsValid s xs.length w hs).mono ?_
      rintro e w' ⟨rfl, rfl⟩
      rw [HF.out]
      go_wp2_with fail
      refine (spec_l1Crimps A cap xs s w h (by omega) HS.out).mono ?_
      rintro e w2 ⟨v, rfl, hown, hb2⟩
      go_wp2_with fail
      go_ret
      refine ⟨_, rfl, ?_, hb2⟩
      unfold vcL
      rw [HV.out, HF.out]
      exact hown


end Go.Proofs.Ytmadagkdgpohiaa
