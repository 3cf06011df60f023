/- The program's VertexCrimps and VertexCrimp. No condition but sizes. -/
import Derived.Test.YtnccpifdajcejaaImplB
import Derived.Test.YtnccpifdajcejaaImplC
namespace Go.Proofs.Ytnccpifdajcejaa
open Go.RowKit

/-- the allowed crimps of a vertex -/
def vcL (xs : List Int) (s : ByteArray) : List Int := if avB xs && fvB s.data.toList xs.length then crimpsTo xs.length (angleAt xs) (byteAt s) xs.length else []
def vcrX (xs : List Int) (i : Nat) : List Int := angTo (crimpX xs.length (angleAt xs) i) (xs.length - 2)
def vcrF (xs : List Int) (s : ByteArray) (i : Nat) : ByteArray := ⟨(folTo (fun k => byteAt s (sig xs.length i k)) (xs.length - 2)).toArray⟩
def vcB (xs : List Int) (s : ByteArray) (i : Int) : Bool := decide (i ∈ vcL xs s)
def vcY (xs : List Int) (s : ByteArray) (i : Int) : List Int := if vcB xs s i then vcrX xs i.toNat else []
def vcS (xs : List Int) (s : ByteArray) (i : Int) : ByteArray := if vcB xs s i then vcrF xs s i.toNat else ByteArray.empty

theorem vcL_mem {xs : List Int} {s : ByteArray} {i : Int} (h : i ∈ vcL xs s) : avB xs = true ∧ fvB s.data.toList xs.length = true ∧ 0 ≤ i ∧ i.toNat < xs.length ∧ 4 ≤ xs.length ∧ allowedB xs.length (angleAt xs) (byteAt s) i.toNat = true := by
  unfold vcL at h
  split at h
  · next hc =>
    rw [Bool.and_eq_true] at hc
    unfold crimpsTo at h
    rw [List.mem_map] at h
    obtain ⟨k, hk, rfl⟩ := h
    rw [List.mem_filter, List.mem_range] at hk
    refine ⟨hc.1, hc.2, by simp, by simpa using hk.1, ?_, by simpa using hk.2⟩
    have := hk.2
    unfold allowedB at this
    by_cases h4 : xs.length < 4
    · rw [if_pos h4] at this; cases this
    · omega
  · cases h

set_option maxHeartbeats 800000 in
theorem impl_VertexCrimps (A : Option Addr) (cap : Nat) (xs : List Int) (s : ByteArray) (w : World) (h : Ints w A xs) (hl : xs.length ≤ maxLen) (hs : s.size ≤ maxLen) :
    Calls Try.prog 68 #[.slice A xs.length cap, .string s] w fun e w' => ∃ v, e = .returned v ∧ Own w' w.heap.size v (vcL xs s) ∧ Below w.heap.size w w' := by
  cases hv : avB xs with
  | false =>
    have HV := Lib.hid hv; clear hv
    go_enter Try.func68, Try.ntmps68
    go_wp2_with fail
    refine (impl_AnglesValid A cap xs w h hl).mono ?_
    rintro e w' ⟨rfl, rfl⟩
    rw [HV.out]
    go_wp2_with fail
    go_ret
    exact ⟨_, rfl, by unfold vcL; rw [HV.out]; exact own_empty w (Nat.le_refl _), (Below.refl _ _).alloc (Nat.le_refl _) _⟩
  | true =>
    obtain ⟨_, h2, h10, hx, _⟩ := avB_parts hv
    have HV := Lib.hid hv; clear hv
    have HX := Lib.hid hx; clear hx
    cases hf : fvB s.data.toList xs.length with
    | false =>
      have HF := Lib.hid hf; clear hf
      go_enter Try.func68, Try.ntmps68
      go_wp2_with fail
      refine (impl_AnglesValid A cap xs w h hl).mono ?_
      rintro e w' ⟨rfl, rfl⟩
      rw [HV.out]
      go_wp2_with fail
      refine (impl_FoldsValid s xs.length w hs).mono ?_
      rintro e w' ⟨rfl, rfl⟩
      rw [HF.out]
      go_wp2_with fail
      go_ret
      exact ⟨_, rfl, by unfold vcL; rw [HV.out, HF.out]; exact own_empty w (Nat.le_refl _), (Below.refl _ _).alloc (Nat.le_refl _) _⟩
    | true =>
      have hsz := fvB_size hf
      have HF := Lib.hid hf; clear hf
      have HS := Lib.hid hsz; clear hsz
      go_enter Try.func68, Try.ntmps68
      go_wp2_with fail
      refine (impl_AnglesValid A cap xs w h hl).mono ?_
      rintro e w' ⟨rfl, rfl⟩
      rw [HV.out]
      go_wp2_with fail
      refine (impl_FoldsValid s xs.length w hs).mono ?_
      rintro e w' ⟨rfl, rfl⟩
      rw [HF.out]
      go_wp2_with fail
      refine (newRing_any w A cap xs s h (by omega) (by omega) (by have := HS.out; omega) (by have := HS.out; omega)).mono ?_
      rintro e w1 ⟨rfl, R, hb1⟩
      go_wp2_with fail
      refine (crimps_any w1 w.heap.size xs.length _ (angleAt xs) (byteAt s) R (by omega) (by omega) (byteAt_lt s)).mono ?_
      rintro e w2 ⟨v, rfl, hown, hb2⟩
      have hsz1 := hb1.size
      go_wp2_with fail
      go_ret
      refine ⟨_, rfl, ?_, below_from hb1 hb2 hsz1⟩
      unfold vcL
      rw [HV.out, HF.out]
      obtain ⟨k1, k2⟩ := hown
      refine ⟨k1, ?_⟩
      rcases k2 with h0 | ⟨g, cap, cur, e, hb, rest⟩
      · exact Or.inl h0
      · exact Or.inr ⟨g, cap, cur, e, by omega, rest⟩

theorem own_lower {w : World} {B B' : Nat} {e : TypeId} {z n : Nat} {v : Value} {xs : List Value} (h : w.ownsRow B e z v n xs) (hB : B' ≤ B) : w.ownsRow B' e z v n xs := by
  obtain ⟨k1, k2⟩ := h
  refine ⟨k1, ?_⟩
  rcases k2 with h0 | ⟨g, cap, cur, e, hb, rest⟩
  · exact Or.inl h0
  · exact Or.inr ⟨g, cap, cur, e, by omega, rest⟩

theorem mem_drop_step {l r : List Int} {k : Nat} {y i : Int} (h : l.drop k = y :: r) (hne : ¬ y = i) : (i ∈ l.drop k) = (i ∈ r) := by
  rw [h, List.mem_cons]
  simp [show ¬ i = y from fun e => hne e.symm]


end Go.Proofs.Ytnccpifdajcejaa
