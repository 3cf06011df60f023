/- The law that a crimp lies at a least angle: the walk of the law itself. No condition but sizes. -/
import Derived.Test.YtkdakceahoihjaaLawRingCrimpAny
namespace Go.Proofs.Ytkdakceahoihjaa
open Go.RowKit

theorem vcL_iff {xs : List Int} {s : ByteArray} (h : 0 < (vcL xs s).length) : avB xs = true ∧ fvB s.data.toList xs.length = true ∧ 4 ≤ xs.length ∧
    ∀ i : Nat, i < xs.length → ((i : Int) ∈ vcL xs s ↔ (∀ j, j < xs.length → angleAt xs i ≤ angleAt xs j) ∧ byteAt s i ≠ byteAt s (nxt xs.length i)) := by
  obtain ⟨y, hy⟩ := List.exists_mem_of_length_pos h
  obtain ⟨h1, h2, _, _, h4, _⟩ := vcL_mem hy
  refine ⟨h1, h2, h4, fun i hi => ?_⟩
  unfold vcL
  rw [h1, h2]
  simp only [Bool.and_self, if_true]
  unfold crimpsTo
  rw [List.mem_map]
  constructor
  · rintro ⟨k, hk, e⟩
    have e2 : (k : Int) = (i : Int) := e
    have : k = i := by omega
    subst this
    rw [List.mem_filter, List.mem_range] at hk
    have := (allowed_iff hi).1 hk.2
    exact ⟨this.2.2, this.2.1⟩
  · rintro ⟨g1, g2⟩
    exact ⟨i, List.mem_filter.2 ⟨List.mem_range.2 hi, (allowed_iff hi).2 ⟨h4, g2, g1⟩⟩, rfl⟩
theorem mem_take_step {l : List Int} {k : Nat} {y i : Int} (h : l.drop k = y :: l.drop (k + 1)) : (i ∈ l.take (k + 1)) ↔ (i ∈ l.take k ∨ i = y) := by
  have hk : k < l.length := by
    rcases Nat.lt_or_ge k l.length with h1 | h1
    · exact h1
    · rw [List.drop_of_length_le h1] at h; cases h
  rw [List.take_succ_eq_append_getElem hk]
  have : l[k] = y := by
    have h2 := List.drop_eq_getElem_cons hk
    rw [h] at h2
    injection h2 with h2
    exact h2.symm
  rw [this]; simp

/-- whether the angle i is least among the first j -/
def LeastTo (xs : List Int) (i j : Nat) (q : Bool) : Prop := q = true ↔ ∀ t, t < j → angleAt xs i ≤ angleAt xs t
set_option maxHeartbeats 4000000 in
set_option maxRecDepth 100000 in
theorem law_FnCrimps (A : Option Addr) (cap : Nat) (bs : List UInt8) (w : World) (h : Codes w w.heap.size A bs) (hcap : bs.length ≤ cap) (hcm : cap ≤ maxLen) :
    Calls Try.prog 5 #[.slice A bs.length cap] w fun e w' => e = .returned (.bool true) ∧ Below w.heap.size w w' := by
  have hlm : bs.length ≤ maxLen := Nat.le_trans hcap hcm
  have hlm2 := hlm
  unfold maxLen at hlm2
  by_cases g1 : 1048576 < bs.length
  · have d1 : decide ((1048576 : Int) < (bs.length : Int)) = true := by simp; omega
    go_enter Try.func5, Try.ntmps5
    go_wp2_with fail
    go_ret
    exact ⟨rfl, Below.refl _ _⟩
  · have d1 : decide ((1048576 : Int) < (bs.length : Int)) = false := by simp; omega
    go_enter Try.func5, Try.ntmps5
    go_wp2_with fail
    refine (spec_DrawVertexCrimps w A cap bs h (by omega) hcap hcm).mono ?_
    rintro e w1 ⟨B, xs, c, s, rfl, hI, hc, hcmx, hx10, hSm, hs, hb1⟩
    clear hSm
    obtain ⟨L, hL⟩ : ∃ L, L = vcL xs s := ⟨_, rfl⟩
    have HL := Lib.hid hL
    clear hL
    go_wp2_with fail
    refine (impl_VertexCrimps B c xs s w1 hI (by unfold maxLen; omega) (by unfold maxLen; omega)).mono ?_
    rintro e w2 ⟨v2, rfl, hown2, hb2⟩
    rw [← HL.out] at hown2
    obtain ⟨D, cd, rfl, hID, hcd, hcdm⟩ := hown2.form
    have b2 := below_from hb1 hb2 hb1.size
    have hI2 := hI.below hb2
    clear hb1 hb2 hI hown2
    go_wp2_with fail
    refine (spec_VertexCrimps B c xs s w2 hI2 (by unfold maxLen; omega) (by unfold maxLen; omega)).mono ?_
    rintro e w3 ⟨v3, rfl, hown3, hb3⟩
    rw [← HL.out] at hown3
    obtain ⟨E, ce, rfl, hIE, _, _⟩ := hown3.form
    have b3 := below_from b2 hb3 b2.size
    have hI3 := hI2.below hb3
    have hD3 := hID.below hb3
    clear b2 hb3 hI2 hown3 hID
    have hlL : L.length ≤ 10 := by
      rw [HL.out]; unfold vcL
      split
      · exact Nat.le_trans (crimpsTo_len _ _ _ _) hx10
      · simp
    have hylm : L.length ≤ maxLen := by unfold maxLen; omega
    go_wp2_with fail
    refine (laws_sameInts D E cd ce L L w3 hD3 hIE hylm hylm).mono ?_
    rintro e w4 ⟨rfl, m4, rfl⟩
    rw [decide_eq_true (rfl : L = L)]
    by_cases l0 : L.length = 0
    · have d0 : ((L.length : Int) == 0) = true := by simp [l0]
      clear l0
      go_wp2_with fail
      refine (laws_sameInts D E cd ce L L (w3.drewN m4) hD3 hIE hylm hylm).mono ?_
      rintro e w5 ⟨rfl, m5, rfl⟩
      rw [decide_eq_true (rfl : L = L)]
      go_wp2_with fail
      go_ret
      exact ⟨rfl, below_drewN b3 _⟩
    · have d0 : ((L.length : Int) == 0) = false := by rw [beq_eq_false_iff_ne]; omega
      obtain ⟨va, vf, v4, viff⟩ := vcL_iff (xs := xs) (s := s) (by rw [← HL.out]; omega)
      have hsz := fvB_size vf
      obtain ⟨n, hn⟩ : ∃ n, n = xs.length := ⟨_, rfl⟩
      obtain ⟨b, off, rfl, hbw, hcl⟩ := hI3 (by intro e; rw [e] at v4; simp at v4)
      have hcell : ∀ k, k < n → w3.cell? ⟨b, off + k, none⟩ = some (.int .i64 (angleAt xs k)) := fun k hk => angleAt_cell hI3 (by omega)
      rw [← hn] at viff v4 hc hx10
      rw [← HL.out] at viff
      have hs1 : s.size ≤ n := by omega
      have hs2 : n ≤ s.size := by omega
      have hcrimp : ∀ (W : World) (i : Nat), Ints W (some ⟨b, off, none⟩) xs → Calls Try.prog 28 #[.slice (some ⟨b, off, none⟩) n c, .string s, .int .i64 i] W fun e w' => ∃ v T, e = .returned (.tuple #[v, .string T, .bool (decide ((i : Int) ∈ L))]) ∧ Below W.heap.size W w' := by
        intro W i hI
        rw [hn]
        refine (impl_VertexCrimp _ c xs s i W hI (by unfold maxLen; omega) (by unfold maxLen; omega)).mono ?_
        rintro e w' ⟨v, e1, _, e3⟩
        refine ⟨v, vcS xs s i, ?_, e3⟩
        rw [e1]
        unfold vcB
        rw [HL.out]
      have HCRIMP := Lib.hid hcrimp
      have HC := Lib.hid hcell
      have HIFF := Lib.hid viff
      have HI3 := Lib.hid hI3
      have HN := Lib.hid hn
      have HM4 := Lib.hid (show m4 = m4 from rfl)
      rw [← HN.out]
      clear va vf hsz hn hcl hcell viff hcrimp hI3 l0
      go_wp2_with fail
      go_loopg [8, 9, 10, 11, 12, 13, 14, 15] (n + 1) (fun g s8 s9 s10 s11 s12 s13 s14 s15 wr => ∃ (i : Nat), i ≤ n ∧ s8 = .int .i64 i ∧ n - i < g ∧ Hid (Below w3.heap.size w3 wr))
      case atStart => exact ⟨0, Nat.zero_le _, rfl, by omega, below_drewN (Below.refl _ _) _⟩
      case round =>
        obtain ⟨i, hi, rfl, hg, HB⟩ := hrel
        cases gk with
        | zero => omega
        | succ g =>
        by_cases hlt : i < n
        · have HDr := Lib.hid (hD3.below HB.out)
          have i1 : (i : Int) < (n : Int) := by omega
          have i0 : (0 : Int) ≤ (i : Int) := by omega
          go_wp2_with fail
          go_loop [9, 10] (fun s9 s10 => ∃ (k : Nat) (q : Bool), k ≤ L.length ∧ s10 = .int .i64 k ∧ s9 = .bool q ∧ Hid (q = decide ((i : Int) ∈ L.take k))) (fun _ s10 => L.length - (intOf s10).toNat)
          case atStart => exact ⟨0, false, Nat.zero_le _, rfl, rfl, by show _ = _; simp⟩
          case round =>
            obtain ⟨k, q, hk, rfl, rfl, HQ⟩ := hrel
            by_cases hkl : k < L.length
            · obtain ⟨bb, oo, y, rfl, _, HX, hcy, _⟩ := HDr.out.at_ hkl
              have k1 : (k : Int) < (L.length : Int) := by omega
              have k0 : (0 : Int) ≤ (k : Int) := by omega
              have hst := mem_take_step (i := (i : Int)) HX.out
              cases q with
              | true =>
                have HQ2 : Hid (true = decide ((i : Int) ∈ L.take (k + 1))) := by
                  show _ = _
                  rw [eq_comm, decide_eq_true_eq, hst]
                  left
                  have := HQ.out
                  rwa [eq_comm, decide_eq_true_eq] at this
                clear hst
                go_wp2_with fail
                go_round
                case rel => exact ⟨k + 1, true, by omega, by go_num, rfl, HQ2⟩
                case measure => simp [intOf]; omega
              | false =>
                have hnm : ¬ (i : Int) ∈ L.take k := by
                  have := HQ.out
                  rwa [eq_comm, decide_eq_false_iff_not] at this
                by_cases hy : y = (i : Int)
                · have dy : (y == (i : Int)) = true := by rw [beq_iff_eq]; exact hy
                  have HQ2 : Hid (true = decide ((i : Int) ∈ L.take (k + 1))) := by
                    show _ = _
                    rw [eq_comm, decide_eq_true_eq, hst]
                    exact Or.inr hy.symm
                  clear hst hnm hy
                  go_wp2_with fail
                  go_round
                  case rel => exact ⟨k + 1, true, by omega, by go_num, rfl, HQ2⟩
                  case measure => simp [intOf]; omega
                · have dy : (y == (i : Int)) = false := by rw [beq_eq_false_iff_ne]; exact hy
                  have HQ2 : Hid (false = decide ((i : Int) ∈ L.take (k + 1))) := by
                    show _ = _
                    rw [eq_comm, decide_eq_false_iff_not, hst]
                    rintro (e | e)
                    · exact hnm e
                    · exact hy e.symm
                  clear hst hnm hy
                  go_wp2_with fail
                  go_round
                  case rel => exact ⟨k + 1, false, by omega, by go_num, rfl, HQ2⟩
                  case measure => simp [intOf]; omega
            · obtain rfl : k = L.length := by omega
              have hq : q = decide ((i : Int) ∈ L) := by
                have := HQ.out
                rwa [List.take_of_length_le (Nat.le_refl _)] at this
              have HQf := Lib.hid hq
              clear hq HQ
              go_wp2_with fail
              go_loopg [11, 12] (n + 1) (fun g2 s11 s12 wi => ∃ (j m : Nat) (q2 : Bool), j ≤ n ∧ s12 = .int .i64 j ∧ s11 = .bool q2 ∧ n - j < g2 ∧ wr.drewN m = wi ∧ Hid (LeastTo xs i j q2))
              case atStart => exact ⟨0, 0, true, Nat.zero_le _, rfl, rfl, by omega, rfl, by show _ ↔ _; simp⟩
              case round =>
                obtain ⟨j, m, q2, hj, rfl, rfl, hg2, rfl, HQ2⟩ := hrel
                cases gk with
                | zero => omega
                | succ g2 =>
                by_cases hjn : j < n
                · have c1 := (HB.out.cell (p := ⟨b, off + j, none⟩) hbw).trans (HC.out j hjn)
                  have c2 := (HB.out.cell (p := ⟨b, off + i, none⟩) hbw).trans (HC.out i hlt)
                  have j1 : (j : Int) < (n : Int) := by omega
                  have j0 : (0 : Int) ≤ (j : Int) := by omega
                  cases q2 with
                  | true =>
                    by_cases hle : angleAt xs i ≤ angleAt xs j
                    · have dl : decide (angleAt xs i ≤ angleAt xs j) = true := by simp; exact hle
                      have HQ3 : Hid (LeastTo xs i (j + 1) true) := by
                        show _ ↔ _
                        simp only [true_iff]
                        intro t ht
                        rcases Nat.lt_or_ge t j with h1 | h1
                        · exact HQ2.out.1 rfl t h1
                        · have : t = j := by omega
                          rw [this]; exact hle
                      clear hle
                      go_wp2_with fail
                      go_quiet (fail)
                      go_wp2_with fail
                      go_roundg g2
                      case measure => omega
                      case rel => exact ⟨j + 1, _, true, by omega, by go_num, rfl, by omega, rfl, HQ3⟩
                    · have dl : decide (angleAt xs i ≤ angleAt xs j) = false := by simp; omega
                      have HQ3 : Hid (LeastTo xs i (j + 1) false) := by
                        show _ ↔ _
                        simp only [Bool.false_eq_true, false_iff]
                        intro hh
                        exact hle (hh j (by omega))
                      clear hle
                      go_wp2_with fail
                      go_quiet (fail)
                      go_wp2_with fail
                      go_roundg g2
                      case measure => omega
                      case rel => exact ⟨j + 1, _, false, by omega, by go_num, rfl, by omega, rfl, HQ3⟩
                  | false =>
                    have HQ3 : Hid (LeastTo xs i (j + 1) false) := by
                      show _ ↔ _
                      simp only [Bool.false_eq_true, false_iff]
                      intro hh
                      have := HQ2.out.2 (fun t ht => hh t (by omega))
                      cases this
                    go_wp2_with fail
                    go_quiet (fail)
                    go_wp2_with fail
                    go_roundg g2
                    case measure => omega
                    case rel => exact ⟨j + 1, _, false, by omega, by go_num, rfl, by omega, rfl, HQ3⟩
                · obtain rfl : j = n := by omega
                  have hif := HIFF.out i hlt
                  have hq2 : q2 = true ↔ ∀ t, t < j → angleAt xs i ≤ angleAt xs t := HQ2.out
                  have hn1 := nxt_lt hlt
                  have his : i < s.size := by omega
                  have hns : nxt j i < s.size := by omega
                  have t1 : (((i : Int) + 1).tmod (j : Int)) = ((nxt j i : Nat) : Int) := by rw [Int.tmod_eq_emod_of_nonneg (by omega), ← mod_nxt hlt]; simp
                  have t2 : (((i : Int) + 1) % (j : Int)) = ((nxt j i : Nat) : Int) := by rw [← mod_nxt hlt]; simp
                  have HT := Lib.hid (And.intro t1 t2)
                  have x1 : byteAt s i = s[i].toNat := byteAt_eq s i his
                  have x2 : byteAt s (nxt j i) = s[nxt j i].toNat := byteAt_eq s _ hns
                  rw [x1, x2] at hif
                  have X := Lib.hid hif
                  have Y := Lib.hid hq2
                  have i5 : IntKind.i64.wrap ((i : Int) + 1) = (i : Int) + 1 := IntWalk.i64_in _ (by omega)
                  have i6 : (i : Int) < (s.size : Int) := by omega
                  have i7 : ((nxt j i : Nat) : Int) < (s.size : Int) := by omega
                  have i8 : ((j : Int) == 0) = false := by rw [beq_eq_false_iff_ne]; clear t1 t2; omega
                  have i9 : (j : Int) ≠ 0 := by clear t1 t2; omega
                  have i10 : ¬ j = 0 := by clear t1 t2; omega
                  have i11 : (0 : Int) ≤ (i : Int) + 1 := by clear t1 t2; omega
                  clear hif hq2 t1 t2 x1 x2
                  go_wp2_with fail
                  refine (HCRIMP.out (wr.drewN m) i (HI3.out.below (below_drewN HB.out m))).mono ?_
                  rintro e w6 ⟨v6, T6, rfl, hb6⟩
                  rw [← HQf.out]
                  have HB6 : Hid (Below w3.heap.size w3 w6) := HB.out.trans ((⟨hb6.os, hb6.tape, hb6.output, hb6.size, hb6.block⟩ : Below wr.heap.size wr w6).mono HB.out.size)
                  clear hb6
                  obtain ⟨t1, t2⟩ := HT.out
                  cases q with
                  | true =>
                    have hmem : (i : Int) ∈ L := by have := HQf.out; rwa [eq_comm, decide_eq_true_eq] at this
                    have hxx := X.out.1 hmem
                    have hq2 : q2 = true := Y.out.2 hxx.1
                    subst hq2
                    have hne : ((s[i].toNat : Int) != (s[nxt j i].toNat : Int)) = true := by rw [bne_iff_ne]; clear t1 t2; have := hxx.2; omega
                    clear hmem hxx
                    go_wp2_with fail
                    go_quiet (fail)
                    go_wp2_with fail
                    go_roundg g
                    case measure => clear t1 t2; omega
                    case rel => exact ⟨i + 1, by clear t1 t2; omega, by go_num, by clear t1 t2; omega, below_drewN HB6.out _⟩
                  | false =>
                    have hmem : ¬ (i : Int) ∈ L := by have := HQf.out; rwa [eq_comm, decide_eq_false_iff_not] at this
                    cases q2 with
                    | true =>
                      have hee : ((s[i].toNat : Int) != (s[nxt j i].toNat : Int)) = false := by
                        rw [bne_eq_false_iff_eq]
                        apply Classical.byContradiction
                        intro hh
                        exact hmem (X.out.2 ⟨Y.out.1 rfl, by clear t1 t2; omega⟩)
                      clear hmem
                      go_wp2_with fail
                      go_quiet (fail)
                      go_wp2_with fail
                      go_roundg g
                      case measure => clear t1 t2; omega
                      case rel => exact ⟨i + 1, by clear t1 t2; omega, by go_num, by clear t1 t2; omega, below_drewN HB6.out _⟩
                    | false =>
                      clear hmem t1 t2
                      go_wp2_with fail
                      go_quiet (fail)
                      go_wp2_with fail
                      go_roundg g
                      case measure => omega
                      case rel => exact ⟨i + 1, by omega, by go_num, by omega, below_drewN HB6.out _⟩
        · obtain rfl : i = n := by omega
          have d4 : decide ((4 : Int) ≤ (i : Int)) = true := by simp; omega
          go_wp2_with fail
          go_ret
          exact ⟨rfl, b3.trans (HB.out.mono b3.size)⟩

end Go.Proofs.Ytkdakceahoihjaa
