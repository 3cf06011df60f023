/- PatternFolds, the program's and the reference's. No condition but sizes. -/
import Derived.Test.YtnccpifdajcejaaPatM
namespace Go.Proofs.Ytnccpifdajcejaa
open Go.RowKit

/-- PatternFolds -/
def pfB (vs : List Vx) (s : ByteArray) : Bool := patB vs && (fvB s.data.toList (ncr vs) && vs.all (vfT s))
theorem fvB_neg (l : List UInt8) : fvB l (-1) = false := by
  unfold fvB
  have : decide ((l.length : Int) = -1) = false := by simp
  rw [this]; rfl
theorem pat_ok {vs : List Vx} {s : ByteArray} (hp : patB vs = true) (hf : fvB s.data.toList (ncr vs) = true) : s.size ≤ 10 ∧ ∀ v ∈ vs, VOk s v := by
  obtain ⟨_, _, hall, _, n0, n10⟩ := patB_parts hp
  obtain ⟨n, hn⟩ : ∃ n : Nat, ncr vs = (n : Int) := ⟨(ncr vs).toNat, by omega⟩
  have hsz := fvB_size (n := n) (by rw [← hn]; exact hf)
  refine ⟨by omega, fun v hv => ?_⟩
  rw [List.all_eq_true] at hall
  obtain ⟨_, h1, h2, _, h3⟩ := vtxB_bd (hall v hv)
  have hle := (ncGo_le 0 vs).2 v hv
  refine ⟨by omega, by omega, fun c hc => ⟨(h3 c hc).1, ?_⟩⟩
  have h4 := hle c hc
  have h5 : ncGo 0 vs = ncr vs := rfl
  omega
theorem all_cnt (t : Vx → Bool) (vs : List Vx) : ((cntX t vs : Int) == (vs.length : Int)) = vs.all t := by
  cases h : vs.all t with
  | true =>
    rw [List.all_eq_true] at h
    have : cntX t vs = vs.length := by unfold cntX; rw [List.filter_eq_self.2 h]
    rw [this]; simp
  | false =>
    rw [beq_eq_false_iff_ne]
    intro e
    have e2 : (vs.filter t).length = vs.length := by unfold cntX at e; omega
    have := (List.filter_eq_self (p := t) (l := vs)).1 ((List.filter_sublist).eq_of_length e2)
    rw [← List.all_eq_true] at this
    rw [this] at h; cases h

set_option maxHeartbeats 2000000 in
theorem impl_PatternFolds (A : Option Addr) (cap : Nat) (vs : List Vx) (s : ByteArray) (w : World) (h : Verts w A vs) (hl : vs.length ≤ maxLen) (hs : s.size ≤ maxLen) (hcap : vs.length ≤ cap) (hcm : cap ≤ maxLen) :
    Calls Try.prog 34 #[.slice A vs.length cap, .string s] w fun e w' => e = .returned (.bool (pfB vs s)) ∧ Below w.heap.size w w' := by
  obtain ⟨c, hc⟩ : ∃ c, c = pcI vs := ⟨_, rfl⟩
  obtain ⟨f, hf⟩ : ∃ f, f = fvB s.data.toList c := ⟨_, rfl⟩
  have HC := Lib.hid hc
  have HF := Lib.hid hf
  clear hc hf
  go_enter Try.func34, Try.ntmps34
  go_wp2_with fail
  refine (impl_PatternCreases A cap vs w h hl).mono ?_
  rintro e w1 ⟨rfl, hb1⟩
  rw [← HC.out]
  go_wp2_with fail
  refine (impl_FoldsValid s c w1 hs).mono ?_
  rintro e w' ⟨rfl, rfl⟩
  rw [← HF.out]
  cases f with
  | false =>
    have hfin : pfB vs s = false := by
      unfold pfB
      cases hp : patB vs with
      | false => rfl
      | true =>
        have h1 := HF.out
        rw [HC.out] at h1
        unfold pcI at h1
        rw [hp, if_pos rfl] at h1
        rw [← h1]; rfl
    have HFin := Lib.hid hfin
    clear hfin
    go_wp2_with fail
    go_ret
    exact ⟨ret_bool HFin.out.symm, hb1⟩
  | true =>
    have hp : patB vs = true := by
      cases hp : patB vs with
      | true => rfl
      | false =>
        have h1 := HF.out
        rw [HC.out] at h1
        unfold pcI at h1
        rw [hp] at h1
        have h2 : fvB s.data.toList (-1) = true := h1.symm
        rw [fvB_neg] at h2; cases h2
    have hfv : fvB s.data.toList (ncr vs) = true := by
      have h1 := HF.out
      rw [HC.out] at h1
      unfold pcI at h1
      rw [hp, if_pos rfl] at h1
      exact h1.symm
    obtain ⟨hs10, hok⟩ := pat_ok hp hfv
    obtain ⟨h1, h3, _⟩ := patB_parts hp
    have hfin : pfB vs s = vs.all (vfT s) := by unfold pfB; rw [hp, hfv]; rfl
    obtain ⟨us, v, hus⟩ : ∃ us v, vs = us ++ [v] := ⟨vs.dropLast, vs.getLast (by intro e; rw [e] at h1; simp at h1), (List.dropLast_concat_getLast _).symm⟩
    have hlen : vs.length = us.length + 1 := by rw [hus]; simp
    obtain ⟨a, ha⟩ : ∃ a, a = cntX (vfT s) vs := ⟨_, rfl⟩
    have hac := all_cnt (vfT s) vs
    rw [← ha] at hac
    have hpo : ∀ W : World, Below w.heap.size w W → Calls Try.prog 62 #[.slice A vs.length cap] W fun e w' => ∃ X, e = .returned X ∧ PatV w' vs X ∧ Below W.heap.size W w' := fun W hW => by
      have := impl_patternOf us.length A cap us v W rfl (by omega) (by rw [← hus]; exact h.below hW) (by omega) hcm
      rw [← hus, ← hlen] at this
      exact this
    have HPO := Lib.hid hpo
    have HFin := Lib.hid hfin
    have HA := Lib.hid ha
    have HAC := Lib.hid hac
    have HOK := Lib.hid hok
    clear hp hfv hok hfin hus hlen ha hac hpo HC HF
    go_wp2_with fail
    refine (HPO.out w1 hb1).mono ?_
    rintro e w2 ⟨X, rfl, hX, hb2⟩
    have b2 := below_from hb1 hb2 hb1.size
    have hcv := countF_any s vs X w2 hX (by omega) HOK.out (by omega)
    rw [← HA.out] at hcv
    have HCV := Lib.hid hcv
    clear hb1 hb2 hcv HPO
    rcases vertices_any hX (by omega) with ⟨hv1, B1, B2, k1, k2, d1, d2, rfl⟩ | ⟨Z, rfl, hZ⟩
    · clear hX
      go_wp2_with fail
      refine (HCV.out w2 (Below.refl _ _)).mono ?_
      rintro e w3 ⟨rfl, hb3⟩
      have b3 := below_from b2 hb3 b2.size
      clear b2 hb3
      rw [hv1] at HAC
      go_wp2_with fail
      refine (vertices_one B1 B2 k1 k2 d1 d2 w3).mono ?_
      rintro e w4 ⟨rfl, hb4⟩
      have b4 := below_from b3 hb4 b3.size
      clear b3 hb4
      go_wp2_with fail
      go_ret
      exact ⟨ret_bool (by rw [HFin.out, ← HAC.out]; rfl), b4⟩
    · have HZ := Lib.hid hZ
      clear hX hZ
      go_wp2_with fail
      refine (HCV.out w2 (Below.refl _ _)).mono ?_
      rintro e w3 ⟨rfl, hb3⟩
      have b3 := below_from b2 hb3 b2.size
      clear b2 hb3
      go_wp2_with fail
      refine (HZ.out w3).mono ?_
      rintro e w4 ⟨rfl, hb4⟩
      have b4 := below_from b3 hb4 b3.size
      clear b3 hb4
      go_wp2_with fail
      go_ret
      exact ⟨ret_bool (by rw [HFin.out, ← HAC.out]), b4⟩
set_option maxHeartbeats 2000000 in
theorem spec_PatternFolds (A : Option Addr) (cap : Nat) (vs : List Vx) (s : ByteArray) (w : World) (h : Verts w A vs) (hl : vs.length ≤ maxLen) (hs : s.size ≤ maxLen) :
    Calls Try.prog 41 #[.slice A vs.length cap, .string s] w fun e w' => e = .returned (.bool (pfB vs s)) ∧ Below w.heap.size w w' := by
  go_enter Try.func41, Try.ntmps41
  go_wp2_with fail
  refine (spec_PatternValid A cap vs w h hl).mono ?_
  rintro e w1 ⟨rfl, hb1⟩
  cases hp : patB vs with
  | false =>
    have hfin : pfB vs s = false := by unfold pfB; rw [hp]; rfl
    have HFin := Lib.hid hfin
    clear hp hfin
    go_wp2_with fail
    go_ret
    exact ⟨ret_bool HFin.out.symm, hb1⟩
  | true =>
    obtain ⟨h1, h3, hall, _, _, _⟩ := patB_parts hp
    have hvx : ∀ v ∈ vs, v.2.length ≤ 1000000 ∧ ∀ x ∈ v.2, 0 ≤ x ∧ x ≤ 9 := fun v hv => by
      rw [List.all_eq_true] at hall
      have := vtxB_bd (hall v hv)
      exact ⟨by omega, this.2.2.2.2⟩
    have hcr := fun W (hW : Below w.heap.size w W) => spec_l6pCreases A cap vs W (h.below hW) (by omega) hvx
    obtain ⟨f, hf⟩ : ∃ f, f = fvB s.data.toList (ncr vs) := ⟨_, rfl⟩
    have HCR := Lib.hid hcr
    have HF := Lib.hid hf
    have HP := Lib.hid hp
    have H3 := Lib.hid h3
    clear hcr hvx hall hf hp h1 h3
    go_wp2_with fail
    refine (HCR.out w1 hb1).mono ?_
    rintro e w' ⟨rfl, rfl⟩
    go_wp2_with fail
    refine (spec_FoldsValid s (ncr vs) w1 hs).mono ?_
    rintro e w' ⟨rfl, rfl⟩
    rw [← HF.out]
    cases f with
    | false =>
      have hfin : pfB vs s = false := by unfold pfB; rw [HP.out, ← HF.out]; rfl
      have HFin := Lib.hid hfin
      clear hfin
      go_wp2_with fail
      go_ret
      exact ⟨ret_bool HFin.out.symm, hb1⟩
    | true =>
      have hfin : pfB vs s = vs.all (vfT s) := by unfold pfB; rw [HP.out, ← HF.out]; rfl
      obtain ⟨hs10, hok⟩ := pat_ok HP.out HF.out.symm
      have HFin := Lib.hid hfin
      have hcall := spec_l6pFolds A cap vs s w1 (h.below hb1) (by have := H3.out; omega) hok (by omega)
      rw [← HFin.out] at hcall
      have HCALL := Lib.hid hcall
      clear hfin hok hcall
      go_wp2_with fail
      refine HCALL.out.mono ?_
      rintro e w2 ⟨rfl, hb2⟩
      have b2 := below_from hb1 hb2 hb1.size
      clear hb1 hb2
      go_wp2_with fail
      go_ret
      exact ⟨rfl, b2⟩
end Go.Proofs.Ytnccpifdajcejaa
