/- PatternCrimp, the program's and the reference's. No condition but sizes. -/
import Derived.Test.YtmadagkdgpohiaaPatR
namespace Go.Proofs.Ytmadagkdgpohiaa
open Go.RowKit

/-- PatternCrimp -/
def pcrI (vs : List Vx) (s : ByteArray) : Int := if patB vs && fvB s.data.toList (ncr vs) then (cntX (vcT s) vs : Int) else -1

set_option maxHeartbeats 2000000 in
theorem impl_PatternCrimp (A : Option Addr) (cap : Nat) (vs : List Vx) (s : ByteArray) (w : World) (h : Verts w A vs) (hl : vs.length ≤ maxLen) (hs : s.size ≤ maxLen) (hcap : vs.length ≤ cap) (hcm : cap ≤ maxLen) :
    Calls Try.prog 31 #[.slice A vs.length cap, .string s] w fun e w' => e = .returned (.int .i64 (pcrI vs s)) ∧ Below w.heap.size w w' := by
  obtain ⟨c, hc⟩ : ∃ c, c = pcI vs := ⟨_, rfl⟩
  obtain ⟨f, hf⟩ : ∃ f, f = fvB s.data.toList c := ⟨_, rfl⟩
  have HC := Lib.hid hc
  have HF := Lib.hid hf
  clear hc hf
  go_enter Try.func31, Try.ntmps31
  go_wp2_with fail
  refine (impl_PatternCreases A cap vs w h hl).mono ?_
  rintro e w1 ⟨rfl, hb1⟩
  rw [← HC.out]
  go_wp2_with fail
  refine (impl_FoldsValid s c w1 hs).mono ?_
  rintro e w' ⟨rfl, rfl⟩
  rw [← HF.out]
  cases f with
  | false =>
    have hfin : pcrI vs s = -1 := by
      unfold pcrI
      cases hp : patB vs with
      | false => rfl
      | true =>
        have h1 := HF.out
        rw [HC.out] at h1
        unfold pcI at h1
        rw [hp, if_pos rfl] at h1
        rw [← h1]; rfl
    have HFin := Lib.hid hfin
    clear hfin
    go_wp2_with fail
    go_ret
    exact ⟨ret_int HFin.out.symm, hb1⟩
  | true =>
    have hp : patB vs = true := by
      cases hp : patB vs with
      | true => rfl
      | false =>
        have h1 := HF.out
        rw [HC.out] at h1
        unfold pcI at h1
        rw [hp] at h1
        have h2 : fvB s.data.toList (-1) = true := h1.symm
        rw [fvB_neg] at h2; cases h2
    have hfv : fvB s.data.toList (ncr vs) = true := by
      have h1 := HF.out
      rw [HC.out] at h1
      unfold pcI at h1
      rw [hp, if_pos rfl] at h1
      exact h1.symm
    obtain ⟨hs10, hok⟩ := pat_ok hp hfv
    obtain ⟨h1, h3, _⟩ := patB_parts hp
    have hfin : pcrI vs s = (cntX (vcT s) vs : Int) := by unfold pcrI; rw [hp, hfv]; rfl
    obtain ⟨us, v, hus⟩ : ∃ us v, vs = us ++ [v] := ⟨vs.dropLast, vs.getLast (by intro e; rw [e] at h1; simp at h1), (List.dropLast_concat_getLast _).symm⟩
    have hlen : vs.length = us.length + 1 := by rw [hus]; simp
    obtain ⟨a, ha⟩ : ∃ a, a = cntX (vcT s) vs := ⟨_, rfl⟩
    have hpo : ∀ W : World, Below w.heap.size w W → Calls Try.prog 53 #[.slice A vs.length cap] W fun e w' => ∃ X, e = .returned X ∧ PatV w' vs X ∧ Below W.heap.size W w' := fun W hW => by
      have := impl_patternOf us.length A cap us v W rfl (by omega) (by rw [← hus]; exact h.below hW) (by omega) hcm
      rw [← hus, ← hlen] at this
      exact this
    have HPO := Lib.hid hpo
    have HFin := Lib.hid hfin
    have HA := Lib.hid ha
    have HOK := Lib.hid hok
    clear hp hfv hok hfin hus hlen ha hpo HC HF
    go_wp2_with fail
    refine (HPO.out w1 hb1).mono ?_
    rintro e w2 ⟨X, rfl, hX, hb2⟩
    have b2 := below_from hb1 hb2 hb1.size
    have hcv := countC_any s vs X w2 hX (by omega) HOK.out (by omega)
    rw [← HA.out] at hcv
    have HCV := Lib.hid hcv
    clear hb1 hb2 hcv HPO
    clear hX
    go_wp2_with fail
    refine (HCV.out w2 (Below.refl _ _)).mono ?_
    rintro e w3 ⟨rfl, hb3⟩
    have b3 := below_from b2 hb3 b2.size
    clear b2 hb3
    go_wp2_with fail
    go_ret
    exact ⟨ret_int (by rw [HFin.out, ← HA.out]), b3⟩
set_option maxHeartbeats 2000000 in
theorem spec_PatternCrimp (A : Option Addr) (cap : Nat) (vs : List Vx) (s : ByteArray) (w : World) (h : Verts w A vs) (hl : vs.length ≤ maxLen) (hs : s.size ≤ maxLen) :
    Calls Try.prog 30 #[.slice A vs.length cap, .string s] w fun e w' => e = .returned (.int .i64 (pcrI vs s)) ∧ Below w.heap.size w w' := by
  go_enter Try.func30, Try.ntmps30
  go_wp2_with fail
  refine (spec_PatternValid A cap vs w h hl).mono ?_
  rintro e w1 ⟨rfl, hb1⟩
  cases hp : patB vs with
  | false =>
    have hfin : pcrI vs s = -1 := by unfold pcrI; rw [hp]; rfl
    have HFin := Lib.hid hfin
    clear hp hfin
    go_wp2_with fail
    go_ret
    exact ⟨ret_int HFin.out.symm, hb1⟩
  | true =>
    obtain ⟨h1, h3, hall, _, _, _⟩ := patB_parts hp
    have hvx : ∀ v ∈ vs, v.2.length ≤ 1000000 ∧ ∀ x ∈ v.2, 0 ≤ x ∧ x ≤ 9 := fun v hv => by
      rw [List.all_eq_true] at hall
      have := vtxB_bd (hall v hv)
      exact ⟨by omega, this.2.2.2.2⟩
    have hcr := fun W (hW : Below w.heap.size w W) => spec_l6pCreases A cap vs W (h.below hW) (by omega) hvx
    obtain ⟨f, hf⟩ : ∃ f, f = fvB s.data.toList (ncr vs) := ⟨_, rfl⟩
    have HCR := Lib.hid hcr
    have HF := Lib.hid hf
    have HP := Lib.hid hp
    clear hcr hvx hall hf hp h1
    go_wp2_with fail
    refine (HCR.out w1 hb1).mono ?_
    rintro e w' ⟨rfl, rfl⟩
    go_wp2_with fail
    refine (spec_FoldsValid s (ncr vs) w1 hs).mono ?_
    rintro e w' ⟨rfl, rfl⟩
    rw [← HF.out]
    cases f with
    | false =>
      have hfin : pcrI vs s = -1 := by unfold pcrI; rw [HP.out, ← HF.out]; rfl
      have HFin := Lib.hid hfin
      clear hfin
      go_wp2_with fail
      go_ret
      exact ⟨ret_int HFin.out.symm, hb1⟩
    | true =>
      have hfin : pcrI vs s = (cntX (vcT s) vs : Int) := by unfold pcrI; rw [HP.out, ← HF.out]; rfl
      obtain ⟨hs10, hok⟩ := pat_ok HP.out HF.out.symm
      have HFin := Lib.hid hfin
      have HV := Lib.hid hok
      clear hfin hok HCR HF HP
      go_wp2_with fail
      go_loopg [5, 6] (vs.length + 1) (fun g s5 s6 wr => ∃ (k c : Nat), k ≤ vs.length ∧ s6 = .int .i64 k ∧ s5 = .int .i64 c ∧ c ≤ k ∧ vs.length - k < g ∧ Hid (Below w.heap.size w wr) ∧ Hid (c = cntX (vcT s) (vs.take k)))
      case atStart => exact ⟨0, 0, Nat.zero_le _, rfl, rfl, Nat.le_refl _, by omega, hb1, rfl⟩
      case round =>
        obtain ⟨k, c, hk, rfl, rfl, hck, hg, HB, HA⟩ := hrel
        cases gk with
        | zero => omega
        | succ g =>
        by_cases hlt : k < vs.length
        · obtain ⟨b, off, A1, c1, A2, c2, rfl, hb, r1, r2, i1, l1, m1, i2, l2, m2⟩ := (h.below HB.out).at_ hlt
          obtain ⟨n1, n2, hx⟩ := HV.out vs[k] (List.getElem_mem hlt)
          have k1 : (k : Int) < (vs.length : Int) := by omega
          have k0 : (0 : Int) ≤ (k : Int) := by omega
          obtain ⟨q, hq⟩ : ∃ q, q = picked s vs[k].2 := ⟨_, rfl⟩
          obtain ⟨ys, hys⟩ : ∃ ys, ys = vcL vs[k].1 q := ⟨_, rfl⟩
          have hy : vcT s vs[k] = decide (0 < ys.length) := by unfold vcT; rw [hys, hq]
          have hc1 : ∀ W : World, Below wr.heap.size wr W → Calls Try.prog 50 #[.agg #[.slice A1 vs[k].1.length c1, .slice A2 vs[k].2.length c2], .string s] W fun e w' => e = .returned (.string q) ∧ Below W.heap.size W w' := fun W hW => by
            rw [hq]; exact spec_l6pText A1 A2 _ c1 c2 vs[k].2 s W (i2.below hW) n2 hx (by omega)
          have hc2 : ∀ W : World, Below wr.heap.size wr W → Calls Try.prog 49 #[.slice A1 vs[k].1.length c1, .string q] W fun e w' => ∃ A9 c9, e = .returned (.slice A9 ys.length c9) ∧ Below W.heap.size W w' := fun W hW => by
            rw [hys]
            refine (spec_VertexCrimps A1 c1 vs[k].1 q W (i1.below hW) (by unfold maxLen; omega) (by rw [hq, picked_size]; unfold maxLen; omega)).mono ?_
            rintro e w' ⟨v, rfl, ho, hb'⟩
            obtain ⟨A9, c9, rfl, _⟩ := ho.form
            exact ⟨A9, c9, rfl, hb'⟩
          have hstep : cntX (vcT s) (vs.take (k + 1)) = cntX (vcT s) (vs.take k) + if vcT s vs[k] then 1 else 0 := by rw [List.take_succ_eq_append_getElem hlt, cntX_snoc, cntX_one]
          rw [hy] at hstep
          have HC1 := Lib.hid hc1
          have HC2 := Lib.hid hc2
          have HS := Lib.hid hstep
          have hz := HB.out.size
          have c1' := (show wr.cell? ⟨b, off + k * 2, none⟩ = some (.slice A1 vs[k].1.length c1) ∧ wr.cell? ⟨b, off + k * 2 + 1, none⟩ = some (.slice A2 vs[k].2.length c2) from ⟨r1, r2⟩)
          have CC := Lib.hid c1'
          clear i1 i2 hx hq hy hys hc1 hc2 hstep c1' n1 n2 hb1
          go_wp2_with fail
          go_region_held3 (fun W => W.cell? ⟨b, off + k * 2, none⟩ = some (.slice A1 vs[k].1.length c1) ∧ W.cell? ⟨b, off + k * 2 + 1, none⟩ = some (.slice A2 vs[k].2.length c2))
            (first
              | exact CC.out
              | exact ⟨(hby.cell (p := ⟨b, off + k * 2, none⟩) (Nat.lt_of_lt_of_le hb hbx.size)).trans ((hbx.cell (p := ⟨b, off + k * 2, none⟩) hb).trans CC.out.1), (hby.cell (p := ⟨b, off + k * 2 + 1, none⟩) (Nat.lt_of_lt_of_le hb hbx.size)).trans ((hbx.cell (p := ⟨b, off + k * 2 + 1, none⟩) hb).trans CC.out.2)⟩
              | exact ⟨(hbx.cell (p := ⟨b, off + k * 2, none⟩) hb).trans CC.out.1, (hbx.cell (p := ⟨b, off + k * 2 + 1, none⟩) hb).trans CC.out.2⟩)
            (first
              | (go_simp; go_at_call 50; refine (HC1.out _ (below_drewN (Below.refl _ _) _)).mono ?_; rintro e w3 ⟨rfl, hbx⟩)
              | (go_simp; go_at_call 49; refine (HC2.out _ (below_from (below_drewN (Below.refl _ _) _) hbx (Nat.le_refl _))).mono ?_; rintro e w4 ⟨A9, c9, rfl, hby⟩))
          all_goals
            have b4 : Below w.heap.size w w4 := HB.out.trans ((below_from (⟨hbx.os, hbx.tape, hbx.output, hbx.size, hbx.block⟩ : Below wr.heap.size wr w3) hby hbx.size).mono hz)
            have B4 := Lib.hid b4
            clear hbx hby b4
            by_cases e : 0 < ys.length
            · have d : decide (0 < ys.length) = true := decide_eq_true e
              have hn : c + 1 = cntX (vcT s) (vs.take (k + 1)) := by rw [HS.out, ← HA.out, decide_eq_true e]; rfl
              have HN := Lib.hid hn
              clear hn
              go_wp2_with fail
              go_roundg g
              case measure => omega
              case rel => exact ⟨k + 1, c + 1, by omega, by go_num, by go_num, by omega, by omega, B4, HN⟩
            · have d : decide (0 < ys.length) = false := decide_eq_false e
              have hn : c = cntX (vcT s) (vs.take (k + 1)) := by rw [HS.out, ← HA.out, decide_eq_false e]; rfl
              have HN := Lib.hid hn
              clear hn
              go_wp2_with fail
              go_roundg g
              case measure => omega
              case rel => exact ⟨k + 1, c, by omega, by go_num, rfl, by omega, by omega, B4, HN⟩
        · obtain rfl : k = vs.length := by omega
          go_wp2_with fail
          go_ret
          exact ⟨ret_int (by rw [HFin.out, HA.out, List.take_length]), HB.out⟩
end Go.Proofs.Ytmadagkdgpohiaa
