/- The program's 'foldsDown': crimps at the least index again and again. No condition. -/
import Derived.Test.YtngpeehjjcgmmaaRingE
namespace Go.Proofs.Ytngpeehjjcgmmaa
open Go.RowKit

theorem cast_beq (a b : Nat) : ((a : Int) == (b : Int)) = decide (a = b) := by
  rw [Bool.eq_iff_iff]; simp; omega

def firstC (n : Nat) (x : Nat → Int) (f : Nat → Nat) : Option Nat := ((List.range n).filter (allowedB n x f)).head?
def foldsN : Nat → Nat → (Nat → Int) → (Nat → Nat) → Bool
  | 0, _, _, _ => false
  | g + 1, n, x, f => match firstC n x f with
    | none => decide (n = 2) && (decide (x 0 = x 1) && decide (f 0 = f 1))
    | some i => foldsN g (n - 2) (crimpX n x i) (fun k => f (sig n i k))

theorem crimps_none {n : Nat} {x : Nat → Int} {f : Nat → Nat} (h : firstC n x f = none) : crimpsTo n x f n = [] := by
  unfold firstC at h
  rw [List.head?_eq_none_iff] at h
  simp [crimpsTo, h]
theorem crimps_some {n i : Nat} {x : Nat → Int} {f : Nat → Nat} (h : firstC n x f = some i) : (∃ r, crimpsTo n x f n = (i : Int) :: r) ∧ i < n ∧ 4 ≤ n := by
  unfold firstC at h
  obtain ⟨r, hr⟩ : ∃ r, (List.range n).filter (allowedB n x f) = i :: r := by
    cases hl : (List.range n).filter (allowedB n x f) with
    | nil => rw [hl] at h; cases h
    | cons a l => rw [hl] at h; injection h with h; subst h; exact ⟨l, rfl⟩
  have hm : i ∈ (List.range n).filter (allowedB n x f) := by rw [hr]; simp
  rw [List.mem_filter, List.mem_range] at hm
  refine ⟨⟨r.map Int.ofNat, by unfold crimpsTo; rw [hr]; rfl⟩, hm.1, ?_⟩
  have := hm.2
  unfold allowedB at this
  by_cases h4 : n < 4
  · rw [if_pos h4] at this; cases this
  · omega

theorem crimpX_bd {n i : Nat} {x : Nat → Int} {M : Int} (hn : 4 ≤ n) (hi : i < n) (h : ∀ k, k < n → -M ≤ x k ∧ x k ≤ M) (_h0 : 0 ≤ M) : ∀ k, k < n - 2 → -(3 * M) ≤ crimpX n x i k ∧ crimpX n x i k ≤ 3 * M := by
  intro k hk
  have h1 := h _ (prv_lt hi)
  have h2 := h _ (nxt_lt hi)
  have h3 := h _ hi
  have h4 := h _ (sig_lt hn hi hk).1
  unfold crimpX
  split <;> omega

set_option maxHeartbeats 2000000 in
set_option maxRecDepth 100000 in
theorem foldsDown_any (w : World) (B p n0 : Nat) (b0 : Nat → Nat) (x0 : Nat → Int) (f0 : Nat → Nat) (h : Ring w p n0 b0 x0 f0) (hn2 : 2 ≤ n0) (hn : n0 ≤ 10) (hf : ∀ k, f0 k < 256)
    (hx : ∀ k, k < n0 → -1000 ≤ x0 k ∧ x0 k ≤ 1000) (hB : B ≤ p) (hBb : ∀ k, k < n0 → B ≤ b0 k) (hBw : B ≤ w.heap.size) :
    Calls Try.prog 22 #[ptr p] w fun e w' => e = .returned (.bool (foldsN 10 n0 x0 f0)) ∧ Below B w w' := by
  go_enter Try.func22, Try.ntmps22
  go_wp2_with (fail)
  go_loopg [3] 10 (fun g s3 wr => ∃ n b x f M, 2 ≤ n ∧ n ≤ 10 ∧ n ≤ 2 * g ∧ Ring wr p n b x f ∧ (∀ k, f k < 256) ∧ Below B w wr ∧ (∀ k, k < n → B ≤ b k) ∧ (∀ k, k < n → -M ≤ x k ∧ x k ≤ M) ∧ 0 ≤ M ∧
    M * 3 ^ (n / 2) ≤ 243000 ∧ Hid (foldsN 10 n0 x0 f0 = foldsN g n x f))
  case atStart => exact ⟨n0, b0, x0, f0, 1000, hn2, hn, by omega, h, hf, Below.refl _ _, hBb, hx, by omega, by
    have : n0 / 2 ≤ 5 := by omega
    have h3 : (3 : Int) ^ (n0 / 2) ≤ 3 ^ 5 := by
      obtain h | h | h | h | h | h : n0 / 2 = 0 ∨ n0 / 2 = 1 ∨ n0 / 2 = 2 ∨ n0 / 2 = 3 ∨ n0 / 2 = 4 ∨ n0 / 2 = 5 := by omega
      all_goals rw [h]; decide
    omega, rfl⟩
  case round =>
    obtain ⟨n, b, x, f, M, hn2, hn10, hg, R, hf, hbel, hBb, hx, hM, hM2, H⟩ := hrel
    cases gk with
    | zero => omega
    | succ g =>
    go_wp2_with (fail)
    refine (crimps_any wr p n b x f R (by omega) (by omega) hf).mono ?_
    rintro e w1 ⟨v, rfl, hown, hb1⟩
    have R1 := R.below hb1
    cases hc : firstC n x f with
    | none =>
      have HC := Lib.hid hc
      rw [crimps_none hc] at hown
      clear hc
      obtain ⟨A, c, rfl, hI, _, _⟩ := hown.form
      have c1 := R1.many
      have c2 := R1.first
      have c3 := R1.next (k := 0) (by omega)
      by_cases z : n = 2
      · have e3 : nxt n 0 = 1 := by unfold nxt; rw [z]; rfl
        rw [e3] at c3
        have c4 := R1.angle (k := 0) (by omega)
        have c5 := R1.angle (k := 1) (by omega)
        have c6 := R1.fold (k := 0) (by omega)
        have c7 := R1.fold (k := 1) (by omega)
        have hz : ((n : Int) != 2) = false := by simp; omega
        have Z := Lib.hid z
        clear z e3
        by_cases hq : x 0 = x 1
        · have hqd : (x 0 == x 1) = true := by simp [hq]
          have Q := Lib.hid hq
          clear hq
          go_wp2
          go_quiet (fail)
          go_wp2
          go_quiet (fail)
          go_wp2
          go_ret
          exact ⟨ret_bool (by rw [H.out, foldsN, HC.out]; simp [Z.out, Q.out, cast_beq]), below_drewN (below_drewN (below_from hbel hb1 (Nat.le_trans hBw hbel.size)) _) _⟩
        · have hqd : (x 0 == x 1) = false := by simp [hq]
          have Q := Lib.hid hq
          clear hq
          go_wp2
          go_quiet (fail)
          go_wp2
          go_quiet (fail)
          go_wp2
          go_ret
          exact ⟨ret_bool (by rw [H.out, foldsN, HC.out]; simp [Q.out]), below_drewN (below_drewN (below_from hbel hb1 (Nat.le_trans hBw hbel.size)) _) _⟩
      · have hz : ((n : Int) != 2) = true := by rw [bne_iff_ne]; omega
        have Z := Lib.hid z
        clear z
        go_wp2
        go_ret
        exact ⟨ret_bool (by rw [H.out, foldsN, HC.out]; simp [Z.out]), below_from hbel hb1 (Nat.le_trans hBw hbel.size)⟩
    | some i =>
      obtain ⟨⟨r, hr⟩, hin, h4⟩ := crimps_some hc
      have HC := Lib.hid hc
      rw [hr] at hown
      clear hc hr
      obtain ⟨A, c, rfl, hI, hcap, _⟩ := hown.form
      obtain ⟨bb, off, y, rfl, hbb, HY, hcell, _⟩ := hI.at_ (k := 0) (by simp)
      have hy : y = (i : Int) := by have := HY.out; simp at this; exact this.symm
      subst hy
      rw [Nat.add_zero] at hcell
      rw [List.length_cons] at *
      clear hI hown HY
      have hM0 : M * 3 ^ (n / 2) ≤ 243000 := hM2
      have hpow : (3 : Int) ^ (n / 2) = 3 * 3 ^ ((n - 2) / 2) := by
        have : n / 2 = (n - 2) / 2 + 1 := by omega
        rw [this, Int.pow_succ]; omega
      have hpos : (1 : Int) ≤ 3 ^ (n / 2) := by
        obtain h | h | h | h | h | h : n / 2 = 0 ∨ n / 2 = 1 ∨ n / 2 = 2 ∨ n / 2 = 3 ∨ n / 2 = 4 ∨ n / 2 = 5 := by omega
        all_goals rw [h]; decide
      have hMle : M ≤ 243000 := Int.le_trans (by simpa using Int.mul_le_mul_of_nonneg_left hpos hM) hM2
      have hpM : 3 * M * 3 ^ ((n - 2) / 2) ≤ 243000 := by rw [hpow] at hM2; rw [Int.mul_comm 3 M, Int.mul_assoc]; exact hM2
      have HP := Lib.hid hpM
      clear hM2 hM0 hpow hpos hpM
      go_wp2_with (fail)
      refine (crimp_any w1 B p n b x f i R1 hin h4 (by omega) (fun k hk => by have := hx k hk; omega) hB hBb).mono ?_
      rintro e w2 ⟨rfl, R2, hb2⟩
      go_wp2_with (fail)
      go_roundg g
      case measure => omega
      case rel => exact ⟨n - 2, _, _, _, 3 * M, by omega, by omega, by omega, R2, fun k => hf _, ((below_from hbel hb1 (Nat.le_trans hBw hbel.size))).trans hb2, fun k hk => hBb _ (sig_lt h4 hin hk).1, crimpX_bd h4 hin hx hM, by omega, HP.out, H.out.trans (by rw [foldsN, HC.out])⟩

end Go.Proofs.Ytngpeehjjcgmmaa
