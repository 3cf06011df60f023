/- The reference's 'l1Folds', and whether angles or lengths fold by it: as the program's. No condition but sizes. -/
import Derived.Test.YtngpeehjjcgmmaaSpecE
namespace Go.Proofs.Ytngpeehjjcgmmaa
open Go.RowKit

section
variable {n : Nat} {x x' : Nat → Int} {f f' : Nat → Nat}
theorem allowedB_congr (hx : ∀ k, k < n → x k = x' k) (hf : ∀ k, k < n → f k = f' k) {i : Nat} (hi : i < n) : allowedB n x f i = allowedB n x' f' i := by
  rw [Bool.eq_iff_iff, allowed_iff hi, allowed_iff hi, hf i hi, hf _ (nxt_lt hi), hx i hi]
  constructor
  · rintro ⟨a, b, c⟩; exact ⟨a, b, fun m hm => by rw [← hx m hm]; exact c m hm⟩
  · rintro ⟨a, b, c⟩; exact ⟨a, b, fun m hm => by rw [hx m hm]; exact c m hm⟩
theorem firstC_congr (hx : ∀ k, k < n → x k = x' k) (hf : ∀ k, k < n → f k = f' k) : firstC n x f = firstC n x' f' := by
  unfold firstC
  rw [List.filter_congr (fun i hi => allowedB_congr hx hf (List.mem_range.1 hi))]
theorem crimpX_congr (hx : ∀ k, k < n → x k = x' k) (hn : 4 ≤ n) {i : Nat} (hi : i < n) {k : Nat} (hk : k < n - 2) : crimpX n x i k = crimpX n x' i k := by
  unfold crimpX
  rw [hx _ (prv_lt hi), hx _ (nxt_lt hi), hx _ hi, hx _ (sig_lt hn hi hk).1]
end
theorem foldsN_congr (g : Nat) : ∀ {n : Nat} {x x' : Nat → Int} {f f' : Nat → Nat}, (∀ k, k < n → x k = x' k) → (∀ k, k < n → f k = f' k) → foldsN g n x f = foldsN g n x' f' := by
  induction g with
  | zero => intro n x x' f f' _ _; rfl
  | succ g ih =>
    intro n x x' f f' hx hf
    rw [foldsN, foldsN, firstC_congr hx hf]
    cases h : firstC n x' f' with
    | none =>
      dsimp only
      by_cases h2 : n = 2
      · subst h2
        rw [hx 0 (by omega), hx 1 (by omega), hf 0 (by omega), hf 1 (by omega)]
      · simp [h2]
    | some i =>
      have hh := crimps_some h
      exact ih (fun k hk => crimpX_congr hx hh.2.2 hh.2.1 hk) (fun k hk => hf _ (sig_lt hh.2.2 hh.2.1 hk).1)

set_option maxHeartbeats 2000000 in
set_option maxRecDepth 100000 in
theorem spec_l1Folds (A : Option Addr) (cap : Nat) (xs : List Int) (s : ByteArray) (w : World) (h : Ints w A xs) (h2 : 2 ≤ xs.length) (hl : xs.length ≤ 10) (hcap : xs.length ≤ cap) (hcm : cap ≤ maxLen)
    (hs : s.size = xs.length) (hx : ∀ k, k < xs.length → -1000 ≤ angleAt xs k ∧ angleAt xs k ≤ 1000) :
    Calls Try.prog 25 #[.slice A xs.length cap, .string s] w fun e w' => e = .returned (.bool (ffB xs s)) ∧ Below w.heap.size w w' := by
  go_enter Try.func25, Try.ntmps25
  go_wp2_with fail
  refine (spec_l1Crimps A cap xs s w h (by omega) hs).mono ?_
  rintro e w0 ⟨v0, rfl, hown0, hb0⟩
  have HH := Lib.hid (show ffB xs s = foldsN 10 xs.length (angleAt xs) (byteAt s) from rfl)
  go_wp2_with fail
  go_loopg [0, 1, 5] 10 (fun g s0 s1 s5 wr => ∃ ys t A c B M, s0 = .slice A ys.length c ∧ s1 = .string t ∧ Ints wr A ys ∧ ys.length ≤ c ∧ c ≤ maxLen ∧ Hid (t.size = ys.length) ∧ 2 ≤ ys.length ∧ ys.length ≤ 10 ∧ ys.length ≤ 2 * g ∧
    Own wr B s5 (crimpsTo ys.length (angleAt ys) (byteAt t) ys.length) ∧ Below w.heap.size w wr ∧ (∀ k, k < ys.length → -M ≤ angleAt ys k ∧ angleAt ys k ≤ M) ∧ 0 ≤ M ∧ M * 3 ^ (ys.length / 2) ≤ 243000 ∧
    Hid (ffB xs s = foldsN g ys.length (angleAt ys) (byteAt t)))
  case atStart => exact ⟨xs, s, A, cap, _, 1000, rfl, rfl, h.below hb0, hcap, hcm, hs, h2, hl, by omega, hown0, hb0, hx, by omega, by
    have h3 : (3 : Int) ^ (xs.length / 2) ≤ 3 ^ 5 := by
      obtain h | h | h | h | h | h : xs.length / 2 = 0 ∨ xs.length / 2 = 1 ∨ xs.length / 2 = 2 ∨ xs.length / 2 = 3 ∨ xs.length / 2 = 4 ∨ xs.length / 2 = 5 := by omega
      all_goals rw [h]; decide
    omega, rfl⟩
  case round =>
    obtain ⟨ys, t, A, c, B, M, rfl, rfl, hI, hc1, hc2, HT, hy2, hy10, hg, hown, hbel, hM1, hM, hM2, H⟩ := hrel
    cases gk with
    | zero => omega
    | succ g =>
    cases hc : firstC ys.length (angleAt ys) (byteAt t) with
    | none =>
      rw [crimps_none hc] at hown
      have HC := Lib.hid hc
      clear hc
      obtain ⟨A5, c5, rfl, _, _, _⟩ := hown.form
      obtain ⟨b, off, _, rfl, _, _, _, _⟩ := hI.at_ (k := 0) (by omega)
      have a0 := angleAt_cell hI (k := 0) (by omega)
      have a1 := angleAt_cell hI (k := 1) (by omega)
      rw [Nat.add_zero] at a0
      have t0 : 0 < t.size := by have := HT.out; omega
      have t1 : 1 < t.size := by have := HT.out; omega
      have e0 := byteAt_eq t 0 t0
      have e1 := byteAt_eq t 1 t1
      by_cases z : ys.length = 2
      · have hz : ((ys.length : Int) == 2) = true := by simp; omega
        have Z := Lib.hid z
        clear z
        have l0 : 0 < ys.length := by omega
        have l1 : 1 < ys.length := by omega
        have l0' : (0 : Int) < (ys.length : Int) := by omega
        have l1' : (1 : Int) < (ys.length : Int) := by omega
        have t0' : (0 : Int) < (t.size : Int) := by omega
        have t1' : (1 : Int) < (t.size : Int) := by omega
        by_cases q1 : angleAt ys 0 = angleAt ys 1
        · have d1 : (angleAt ys 0 == angleAt ys 1) = true := by simp [q1]
          have Q1 := Lib.hid q1
          clear q1
          have HE := Lib.hid (And.intro e0 e1)
          clear e0 e1
          go_wp2_with fail
          go_quiet (fail)
          go_wp2_with fail
          go_ret
          exact ⟨ret_bool (by rw [H.out, foldsN, HC.out]; simp [Z.out, Q1.out, HE.out.1, HE.out.2, cast_beq]), below_drewN hbel _⟩
        · have d1 : (angleAt ys 0 == angleAt ys 1) = false := by simp [q1]
          have Q1 := Lib.hid q1
          clear q1 e0 e1
          go_wp2_with fail
          go_quiet (fail)
          go_wp2_with fail
          go_ret
          exact ⟨ret_bool (by rw [H.out, foldsN, HC.out]; simp [Q1.out]), below_drewN hbel _⟩
      · have hz : ((ys.length : Int) == 2) = false := by rw [beq_eq_false_iff_ne]; omega
        have Z := Lib.hid z
        clear z e0 e1
        go_wp2_with fail
        go_quiet (fail)
        go_wp2_with fail
        go_ret
        exact ⟨ret_bool (by rw [H.out, foldsN, HC.out]; simp [Z.out]), below_drewN hbel _⟩
    | some i =>
      obtain ⟨⟨r, hr⟩, hin, h4⟩ := crimps_some hc
      have HC := Lib.hid hc
      rw [hr] at hown
      clear hc hr
      obtain ⟨A5, c5, rfl, hI5, hcap5, _⟩ := hown.form
      obtain ⟨bb, off5, y, rfl, hbb, HY, hcell, _⟩ := hI5.at_ (k := 0) (by simp)
      have hy : y = (i : Int) := by have := HY.out; simp at this; exact this.symm
      subst hy
      rw [Nat.add_zero] at hcell
      rw [List.length_cons] at *
      clear hI5 hown HY
      have hpow : (3 : Int) ^ (ys.length / 2) = 3 * 3 ^ ((ys.length - 2) / 2) := by
        have : ys.length / 2 = (ys.length - 2) / 2 + 1 := by omega
        rw [this, Int.pow_succ]; omega
      have hpos : (1 : Int) ≤ 3 ^ (ys.length / 2) := by
        obtain h | h | h | h | h | h : ys.length / 2 = 0 ∨ ys.length / 2 = 1 ∨ ys.length / 2 = 2 ∨ ys.length / 2 = 3 ∨ ys.length / 2 = 4 ∨ ys.length / 2 = 5 := by omega
        all_goals rw [h]; decide
      have hMle : M ≤ 243000 := Int.le_trans (by simpa using Int.mul_le_mul_of_nonneg_left hpos hM) hM2
      have hpM : 3 * M * 3 ^ ((ys.length - 2) / 2) ≤ 243000 := by rw [hpow] at hM2; rw [Int.mul_comm 3 M, Int.mul_assoc]; exact hM2
      have HP := Lib.hid hpM
      clear hM2 hpow hpos hpM
      obtain ⟨b, off, _, rfl, _, _, _, _⟩ := hI.at_ (k := 0) (by omega)
      go_wp2_with fail
      refine (spec_l1Crimp_n b off c ys.length ys t i wr hI (Lib.hid rfl) h4 (by omega) hc1 hc2 HT hin (Lib.hid fun k hk => by have := hM1 k hk; omega)).mono ?_
      rintro e w1 ⟨v, ys', t', rfl, hown1, hcr, hb1⟩
      obtain ⟨A1, c1, rfl, hI1, hcc1, hcc2⟩ := hown1.form
      have hlen := hcr.len
      have hsz := hcr.size
      have hb1' := below_from hbel hb1 hbel.size
      have HCR := Lib.hid hcr
      have e2 : t'.size = ys'.length := by omega
      have E2 := Lib.hid e2
      have l2 : 2 ≤ ys'.length := by omega
      have l10 : ys'.length ≤ 10 := by omega
      have lg : ys'.length ≤ 2 * g := by omega
      have HLE := Lib.hid hlen
      clear hlen hsz hcr e2 hown1
      go_wp2_with fail
      refine (spec_l1Crimps A1 c1 ys' t' w1 hI1 (by omega) E2.out).mono ?_
      rintro e w2 ⟨v2, rfl, hown2, hb2⟩
      have hI2 := hI1.below hb2
      have hb2' := below_from hb1' hb2 hb1'.size
      go_wp2_with fail
      go_roundg g
      case measure => omega
      case rel =>
        have hlen := HLE.out
        have hcr := HCR.out
        refine ⟨ys', t', A1, c1, _, 3 * M, rfl, rfl, hI2, hcc1, hcc2, E2.out, l2, l10, lg, hown2, hb2', fun k hk => ?_, by omega, by rw [hlen]; exact HP.out, H.out.trans ?_⟩
        · rw [hcr.angle k (by omega)]
          exact crimpX_bd h4 hin hM1 hM k (by omega)
        · rw [foldsN, HC.out, hlen]
          exact foldsN_congr g (fun k hk => (hcr.angle k hk).symm) (fun k hk => (hcr.fold k hk).symm)
set_option maxHeartbeats 800000 in
theorem spec_VertexFolds (A : Option Addr) (cap : Nat) (xs : List Int) (s : ByteArray) (w : World) (h : Ints w A xs) (hl : xs.length ≤ maxLen) (hs : s.size ≤ maxLen) (hcap : xs.length ≤ cap) (hcm : cap ≤ maxLen) :
    Calls Try.prog 7 #[.slice A xs.length cap, .string s] w fun e w' => e = .returned (.bool (vfB xs s)) ∧ Below w.heap.size w w' := by
  cases hv : acB xs with
  | false =>
    have HV := Lib.hid hv; clear hv
    go_enter Try.func7, Try.ntmps7
    go_wp2_with fail
    refine (spec_AnglesCloses A cap xs w h hl).mono ?_
    rintro e w' ⟨rfl, rfl⟩
    rw [HV.out]
    go_wp2_with fail
    go_ret
    exact ⟨ret_bool (by unfold vfB; rw [HV.out]; rfl), Below.refl _ _⟩
  | true =>
    have hv2 := hv
    unfold acB at hv2
    rw [Bool.and_eq_true] at hv2
    obtain ⟨_, h2, h10, hx, _⟩ := avB_parts hv2.1
    have HV := Lib.hid hv; clear hv
    have HX := Lib.hid hx; clear hx hv2
    cases hf : fvB s.data.toList xs.length with
    | false =>
      have HF := Lib.hid hf; clear hf
      go_enter Try.func7, Try.ntmps7
      go_wp2_with fail
      refine (spec_AnglesCloses A cap xs w h hl).mono ?_
      rintro e w' ⟨rfl, rfl⟩
      rw [HV.out]
      go_wp2_with fail
      refine (spec_FoldsValid s xs.length w hs).mono ?_
      rintro e w' ⟨rfl, rfl⟩
      rw [HF.out]
      go_wp2_with fail
      go_ret
      exact ⟨ret_bool (by unfold vfB; rw [HV.out, HF.out]; rfl), Below.refl _ _⟩
    | true =>
      have hsz := fvB_size hf
      have HF := Lib.hid hf; clear hf
      have HS := Lib.hid hsz; clear hsz
      go_enter Try.func7, Try.ntmps7
      go_wp2_with fail
      refine (spec_AnglesCloses A cap xs w h hl).mono ?_
      rintro e w' ⟨rfl, rfl⟩
      rw [HV.out]
      go_wp2_with fail
      refine (spec_FoldsValid s xs.length w hs).mono ?_
      rintro e w' ⟨rfl, rfl⟩
      rw [HF.out]
      go_wp2_with fail
      refine (spec_l1Folds A cap xs s w h h2 h10 hcap hcm HS.out (fun k hk => by have := HX.out _ (angleAt_mem hk); omega)).mono ?_
      rintro e w2 ⟨rfl, hb2⟩
      go_wp2_with fail
      go_ret
      exact ⟨ret_bool (by unfold vfB; rw [HV.out, HF.out]; rfl), hb2⟩


end Go.Proofs.Ytngpeehjjcgmmaa
