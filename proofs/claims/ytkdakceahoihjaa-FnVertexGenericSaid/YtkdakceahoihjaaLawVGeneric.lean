/- The law that a single least angle has different folds: the walk of the law itself. No condition but sizes. -/
import Derived.Test.YtkdakceahoihjaaDrawD
import Derived.Test.YtkdakceahoihjaaTurnJ
namespace Go.Proofs.Ytkdakceahoihjaa
open Go.RowKit

/-- how many of the first k are v -/
def cntE (x : Nat → Int) (v : Int) : Nat → Nat
  | 0 => 0
  | k + 1 => cntE x v k + (if x k = v then 1 else 0)
theorem cntE_one {x : Nat → Int} {v : Int} {k j : Nat} (hj : j < k) (h : x j = v) : 1 ≤ cntE x v k := by
  induction k with
  | zero => omega
  | succ k ih =>
    rw [cntE]
    by_cases e : j = k
    · rw [← e, if_pos h]; omega
    · have := ih (by omega); omega
theorem cntE_two {x : Nat → Int} {v : Int} {k i j : Nat} (hi : i < j) (hj : j < k) (h1 : x i = v) (h2 : x j = v) : 2 ≤ cntE x v k := by
  induction k with
  | zero => omega
  | succ k ih =>
    rw [cntE]
    by_cases e : j = k
    · have := cntE_one (k := k) (by omega) h1
      rw [← e, if_pos h2]; rw [e]; omega
    · have := ih (by omega); omega
theorem cntE_le (x : Nat → Int) (v : Int) (k : Nat) : cntE x v k ≤ k := by
  induction k with
  | zero => exact Nat.le_refl _
  | succ k ih => rw [cntE]; split <;> omega
theorem cntE_only {x : Nat → Int} {m n : Nat} (hm : m < n) (hc : ¬ 1 < cntE x (x m) n) : ∀ j, j < n → x j = x m → j = m := by
  intro j hj e
  rcases Nat.lt_trichotomy j m with h | h | h
  · have := cntE_two h hm e rfl; omega
  · exact h
  · have := cntE_two h hj rfl e; omega

/-- a text with one letter exchanged -/
def flipT (s : ByteArray) (m : Nat) : ByteArray := s.extract 0 m ++ swT (s.extract m (m + 1)) ++ s.extract (m + 1) s.size
theorem ext_list {s : ByteArray} {j : Nat} (h : j < s.size) : (s.extract j (j + 1)).data.toList = [s[j]] := by
  rw [ByteArray.data_extract]
  simp
  have : s.data.toList.drop j = s[j] :: s.data.toList.drop (j + 1) := byte_drop h
  rw [this]
  simp
theorem flipT_mid {s : ByteArray} {m : Nat} (h : m < s.size) : flipT s m = s.extract 0 m ++ bts [swB s[m]] ++ s.extract (m + 1) s.size := by
  unfold flipT swT; rw [ext_list h]; rfl
theorem flipT_at {s : ByteArray} {m k : Nat} (h : m < s.size) (hk : k < s.size) : byteAt (flipT s m) k = if k = m then swF (byteAt s m) else byteAt s k := by
  rw [flipT_mid h, byteAt_append, byteAt_append]
  have z1 : (s.extract 0 m).size = m := by simp only [ByteArray.size_extract]; omega
  have z2 : (bts [swB s[m]]).size = 1 := rfl
  rw [ByteArray.size_append, z1, z2]
  by_cases h1 : k < m
  · rw [if_pos (by omega), if_pos h1, if_neg (by omega), byteAt_extract _ _ _ _ (by omega), Nat.zero_add]
  · by_cases h2 : k = m
    · subst h2
      rw [if_pos (by omega), if_neg h1, if_pos rfl, Nat.sub_self]
      show (swB s[k]).toNat = _
      rw [swB_nat, byteAt_eq s k hk]
    · rw [if_neg (by omega), if_neg h2, byteAt_extract _ _ _ _ (by omega)]
      congr 1; omega
theorem flip_no {xs : List Int} {s : ByteArray} {m : Nat} (h : vfB xs s = true) (h2 : xs.length ≠ 2) (hm : m < xs.length) (hmin : ∀ j, j < xs.length → angleAt xs m ≤ angleAt xs j) (ho : ∀ j, j < xs.length → angleAt xs j = angleAt xs m → j = m) :
    byteAt s m ≠ byteAt s (nxt xs.length m) ∧ vfB xs (flipT s m) = false := by
  have hd := vfB_down.1 h
  have hsz : s.size = xs.length := fvB_size hd.2.1
  have hbin := fvB_at hd.2.1
  have only : ∀ (t : ByteArray) i, firstC xs.length (angleAt xs) (byteAt t) = some i → i = m := by
    intro t i hi
    obtain ⟨hi1, hi2⟩ := firstC_some hi
    have ha := (allowed_iff hi1).1 hi2
    exact ho i hi1 (Int.le_antisymm (ha.2.2 m hm) (hmin i hi1))
  have hf : ∃ i, firstC xs.length (angleAt xs) (byteAt s) = some i := by
    cases hc : firstC xs.length (angleAt xs) (byteAt s) with
    | some i => exact ⟨i, rfl⟩
    | none =>
      exfalso
      unfold vfB ffB at h
      simp only [Bool.and_eq_true] at h
      have h3 := h.2
      rw [foldsN, hc] at h3
      simp only [Bool.and_eq_true, decide_eq_true_eq] at h3
      exact h2 h3.1
  obtain ⟨i, hi⟩ := hf
  have hA := firstC_some hi
  rw [only s i hi] at hA
  have ha := (allowed_iff hm).1 hA.2
  refine ⟨ha.2.1, ?_⟩
  cases hv : vfB xs (flipT s m) with
  | false => rfl
  | true =>
    exfalso
    unfold vfB ffB at hv
    simp only [Bool.and_eq_true] at hv
    have h3 := hv.2
    rw [foldsN] at h3
    cases hc : firstC xs.length (angleAt xs) (byteAt (flipT s m)) with
    | none =>
      rw [hc] at h3
      simp only [Bool.and_eq_true, decide_eq_true_eq] at h3
      exact h2 h3.1
    | some j =>
      have hB := firstC_some hc
      rw [only _ j hc] at hB
      have hb := (allowed_iff hm).1 hB.2
      have hn := nxt_lt hm
      apply hb.2.1
      have hne : nxt xs.length m ≠ m := by unfold nxt; split <;> omega
      rw [flipT_at (by omega) (by omega), flipT_at (by omega) (by omega), if_pos rfl, if_neg hne]
      have p1 := hbin m hm
      have p2 := hbin _ hn
      have p3 := ha.2.1
      have key : ∀ p q : Nat, (p = 77 ∨ p = 86) → (q = 77 ∨ q = 86) → p ≠ q → swF p = q := by
        rintro p q (rfl | rfl) (rfl | rfl) h
        · exact absurd rfl h
        · rfl
        · rfl
        · exact absurd rfl h
      exact key _ _ p1 p2 p3

set_option maxHeartbeats 2000000 in
set_option maxRecDepth 100000 in
theorem law_FnVertexGeneric (A : Option Addr) (cap : Nat) (bs : List UInt8) (w : World) (h : Codes w w.heap.size A bs) (hcap : bs.length ≤ cap) (hcm : cap ≤ maxLen) :
    Calls Try.prog 6 #[.slice A bs.length cap] w fun e w' => e = .returned (.bool true) ∧ Below w.heap.size w w' := by
  have hlm : bs.length ≤ maxLen := Nat.le_trans hcap hcm
  have hlm2 := hlm
  unfold maxLen at hlm2
  by_cases g1 : 1048576 < bs.length
  · have d1 : decide ((1048576 : Int) < (bs.length : Int)) = true := by simp; omega
    go_enter Try.func6, Try.ntmps6
    go_wp2_with fail
    go_ret
    exact ⟨rfl, Below.refl _ _⟩
  · have d1 : decide ((1048576 : Int) < (bs.length : Int)) = false := by simp; omega
    go_enter Try.func6, Try.ntmps6
    go_wp2_with fail
    refine (spec_DrawVertexFolds w A cap bs h (by omega) hcap hcm).mono ?_
    rintro e w1 ⟨B, xs, c, s, rfl, hI, hc, hcmx, hx10, hSm, hs, hb1⟩
    have HSm := Lib.hid hSm
    clear hSm
    go_wp2_with fail
    refine (impl_VertexFolds B c xs s w1 hI (by unfold maxLen; omega) (by unfold maxLen; omega)).mono ?_
    rintro e w2 ⟨rfl, hb2⟩
    have b2 := below_from hb1 hb2 hb1.size
    have hI2 := hI.below hb2
    clear hb1 hb2 hI
    go_wp2_with fail
    refine (spec_VertexFolds B c xs s w2 hI2 (by unfold maxLen; omega) (by unfold maxLen; omega) hc hcmx).mono ?_
    rintro e w3 ⟨rfl, hb3⟩
    have b3 := below_from b2 hb3 b2.size
    have hI3 := hI2.below hb3
    clear b2 hb3 hI2
    cases hv : vfB xs s with
    | false =>
      have HV := Lib.hid hv
      clear hv
      go_wp2_with fail
      go_ret
      exact ⟨rfl, b3⟩
    | true =>
      have hsz : s.size = xs.length := fvB_size (vfB_down.1 hv).2.1
      have h2l : 2 ≤ xs.length := (avB_parts ((acB_iff xs).1 (vfB_down.1 hv).1).1).2.1
      have HV := Lib.hid hv
      obtain ⟨n, hn⟩ : ∃ n, n = xs.length := ⟨_, rfl⟩
      have hs1 : s.size ≤ n := by omega
      have hs2 : n ≤ s.size := by omega
      have HS := Lib.hid hsz
      rw [← hn] at hx10 h2l hc
      obtain ⟨b, off, rfl, hbw, _⟩ := hI3 (by intro e; rw [e] at hn; simp at hn; omega)
      have hcell : ∀ k, k < n → w3.cell? ⟨b, off + k, none⟩ = some (.int .i64 (angleAt xs k)) := fun k hk => angleAt_cell hI3 (by omega)
      have hbd : ∀ k, k < n → -2000 ≤ angleAt xs k ∧ angleAt xs k ≤ 2000 := fun k hk => HSm.out _ (angleAt_mem (by omega))
      have HC := Lib.hid hcell
      have HBd := Lib.hid hbd
      rw [← hn]
      have HN := Lib.hid hn
      have HI3 := Lib.hid hI3
      clear hv hsz hn hcell hbd HSm hI3
      go_wp2_with fail
      go_loopg [8, 10] (n + 1) (fun g s8 s10 wr => ∃ (k m q : Nat), k ≤ n ∧ s10 = .int .i64 k ∧ s8 = .int .i64 m ∧ m < n ∧ n - k < g ∧ w3.drewN q = wr ∧ Hid (∀ j, j < k → angleAt xs m ≤ angleAt xs j))
      case atStart => exact ⟨0, 0, 0, Nat.zero_le _, rfl, rfl, by omega, by omega, rfl, fun j hj => absurd hj (Nat.not_lt_zero j)⟩
      case round =>
        obtain ⟨k, m, q, hk, rfl, rfl, hm, hg, rfl, HM⟩ := hrel
        cases gk with
        | zero => omega
        | succ g =>
        by_cases hlt : k < n
        · have c1 := HC.out k hlt
          have c2 := HC.out m hm
          have i1 : (k : Int) < (n : Int) := by omega
          have i2 : (m : Int) < (n : Int) := by omega
          have i3 : (0 : Int) ≤ (k : Int) := by omega
          have i4 : (0 : Int) ≤ (m : Int) := by omega
          by_cases hq : angleAt xs k < angleAt xs m
          · have dq : decide (angleAt xs k < angleAt xs m) = true := by simp; exact hq
            have HM2 : Hid (∀ j, j < k + 1 → angleAt xs k ≤ angleAt xs j) := fun j hj => by
              rcases Nat.lt_or_ge j k with h | h
              · have := HM.out j h; omega
              · have : j = k := by omega
                rw [this]; exact Int.le_refl _
            clear hq
            go_wp2_with fail
            go_quiet (fail)
            go_wp2_with fail
            go_roundg g
            case measure => omega
            case rel => exact ⟨k + 1, k, _, by omega, by go_num, rfl, hlt, by omega, rfl, HM2⟩
          · have dq : decide (angleAt xs k < angleAt xs m) = false := by simp; omega
            have HM2 : Hid (∀ j, j < k + 1 → angleAt xs m ≤ angleAt xs j) := fun j hj => by
              rcases Nat.lt_or_ge j k with h | h
              · exact HM.out j h
              · have : j = k := by omega
                rw [this]; omega
            clear hq
            go_wp2_with fail
            go_quiet (fail)
            go_wp2_with fail
            go_roundg g
            case measure => omega
            case rel => exact ⟨k + 1, m, _, by omega, by go_num, rfl, hm, by omega, rfl, HM2⟩
        · obtain rfl : k = n := by omega
          go_wp2_with fail
          go_loopg [9, 11] (k + 1) (fun g s9 s11 wr => ∃ (i d q : Nat), i ≤ k ∧ s11 = .int .i64 i ∧ s9 = .int .i64 d ∧ d ≤ i ∧ k - i < g ∧ w3.drewN q = wr ∧ Hid (d = cntE (angleAt xs) (angleAt xs m) i))
          case atStart => exact ⟨0, 0, q, Nat.zero_le _, rfl, rfl, Nat.le_refl _, by omega, rfl, rfl⟩
          case round =>
            obtain ⟨i, d, q2, hi, rfl, rfl, hdi, hg2, rfl, HD⟩ := hrel
            cases gk with
            | zero => omega
            | succ g2 =>
            by_cases hlt2 : i < k
            · have c1 := HC.out i hlt2
              have c2 := HC.out m hm
              have i1 : (i : Int) < (k : Int) := by omega
              have i2 : (m : Int) < (k : Int) := by omega
              have i3 : (0 : Int) ≤ (i : Int) := by omega
              have i4 : (0 : Int) ≤ (m : Int) := by omega
              by_cases hq : angleAt xs i = angleAt xs m
              · have dq : (angleAt xs i == angleAt xs m) = true := by simp; exact hq
                have HD2 : Hid (d + 1 = cntE (angleAt xs) (angleAt xs m) (i + 1)) := by show _ = _; rw [cntE, if_pos hq, ← HD.out]
                clear hq
                go_wp2_with fail
                go_quiet (fail)
                go_wp2_with fail
                go_roundg g2
                case measure => omega
                case rel => exact ⟨i + 1, d + 1, _, by omega, by go_num, by go_num, by omega, by omega, rfl, HD2⟩
              · have dq : (angleAt xs i == angleAt xs m) = false := by rw [beq_eq_false_iff_ne]; exact hq
                have HD2 : Hid (d = cntE (angleAt xs) (angleAt xs m) (i + 1)) := by show _ = _; rw [cntE, if_neg hq, ← HD.out]; rfl
                clear hq
                go_wp2_with fail
                go_quiet (fail)
                go_wp2_with fail
                go_roundg g2
                case measure => omega
                case rel => exact ⟨i + 1, d, _, by omega, by go_num, rfl, by omega, by omega, rfl, HD2⟩
            · obtain rfl : i = k := by omega
              by_cases n2 : i = 2
              · subst n2
                go_wp2_with fail
                go_ret
                exact ⟨rfl, below_drewN b3 _⟩
              · have e2 : ((i : Int) == 2) = false := by rw [beq_eq_false_iff_ne]; omega
                by_cases d2 : 1 < d
                · have e3 : decide ((1 : Int) < (d : Int)) = true := by simp; omega
                  go_wp2_with fail
                  go_ret
                  exact ⟨rfl, below_drewN b3 _⟩
                · have e3 : decide ((1 : Int) < (d : Int)) = false := by simp; omega
                  have hfl := flip_no HV.out (by rw [← HN.out]; exact n2) (by rw [← HN.out]; exact hm) (fun j hj => HM.out j (by rw [HN.out]; exact hj)) (fun j hj e => cntE_only hm (by rw [← HD.out]; exact d2) j (by rw [HN.out]; exact hj) e)
                  rw [← HN.out] at hfl
                  have hms : m < s.size := by omega
                  have hn1 := nxt_lt hm
                  have hns : nxt i m < s.size := by omega
                  have z1 : (s.extract m (m + 1)).size = 1 := by simp only [ByteArray.size_extract]; omega
                  have t1 : (((m : Int) + 1).tmod (i : Int)) = ((nxt i m : Nat) : Int) := by
                    rw [Int.tmod_eq_emod_of_nonneg (by omega), ← mod_nxt hm]; simp
                  have t2 : (((m : Int) + 1) % (i : Int)) = ((nxt i m : Nat) : Int) := by rw [← mod_nxt hm]; simp
                  have hb1 : byteAt s m = s[m].toNat := byteAt_eq s m hms
                  have hb2 : byteAt s (nxt i m) = s[nxt i m].toNat := byteAt_eq s _ hns
                  have hne : ((s[m].toNat : Int) != (s[nxt i m].toNat : Int)) = true := by rw [bne_iff_ne]; intro e; exact hfl.1 (by rw [hb1, hb2]; omega)
                  have hno := Lib.hid hfl.2
                  have i1 : (0 : Int) ≤ (m : Int) := by omega
                  have i2 : (m : Int) ≤ (s.size : Int) := by omega
                  have i3 : (m : Int) + 1 ≤ (s.size : Int) := by omega
                  have i4 : (0 : Int) ≤ (m : Int) + 1 := by omega
                  have i5 : IntKind.i64.wrap ((m : Int) + 1) = (m : Int) + 1 := IntWalk.i64_in _ (by omega)
                  have i6 : ((m : Int) + 1).toNat = m + 1 := by omega
                  have i7 : (m : Int) < (s.size : Int) := by omega
                  have i8 : ((nxt i m : Nat) : Int) < (s.size : Int) := by omega
                  have i9 : ((i : Int) == 0) = false := by rw [beq_eq_false_iff_ne]; omega
                  have i10 : (m : Int) ≤ (m : Int) + 1 := by omega
                  have hfs : (swT (s.extract m (m + 1))).size = 1 := by rw [swT_size, z1]
                  have b12 : ∀ W, (Op.stringOp .add (s.extract 0 m) (swT (s.extract m (m + 1)))).run Try.prog W = .ok (.string (s.extract 0 m ++ swT (s.extract m (m + 1)))) W := fun W => run_string_add_sum W _ _ (by rw [hfs]; simp only [ByteArray.size_extract]; omega)
                  have b13 : ∀ W, (Op.stringOp .add (s.extract 0 m ++ swT (s.extract m (m + 1))) (s.extract (m + 1) s.size)).run Try.prog W = .ok (.string (flipT s m)) W := fun W => run_string_add_sum W _ _ (by rw [ByteArray.size_append, hfs]; simp only [ByteArray.size_extract]; omega)
                  have hft : (flipT s m).size ≤ 100 := by unfold flipT; rw [ByteArray.size_append, ByteArray.size_append, hfs]; simp only [ByteArray.size_extract]; omega
                  have Z1 := Lib.hid z1
                  have HFT := Lib.hid hft
                  have HT := Lib.hid (And.intro t1 t2)
                  have HNE := Lib.hid hne
                  clear hfl hb1 hb2 z1 t1 t2 hne hfs hft HD HM
                  go_wp2_with fail
                  go_region_held3 (fun w' => True) (trivial) ((go_simp; go_at_call 29; refine (impl_FoldsSwap _ _ (by rw [Z1.out]; omega)).mono ?_; rintro e w5 ⟨rfl, hb5⟩))
                  have b5 := below_from b3 (⟨hb5.os, hb5.tape, hb5.output, hb5.size, hb5.block⟩ : Below w3.heap.size w3 w5) b3.size
                  have hI5 := HI3.out.below (⟨hb5.os, hb5.tape, hb5.output, hb5.size, hb5.block⟩ : Below w3.heap.size w3 w5)
                  obtain ⟨t1, t2⟩ := HT.out
                  have hne := HNE.out
                  have hcall : ∀ W : World, Ints W (some ⟨b, off, none⟩) xs → Calls Try.prog 17 #[.slice (some ⟨b, off, none⟩) i c, .string (flipT s m)] W fun e w' => e = .returned (.bool false) ∧ Below W.heap.size W w' := by
                    intro W hI
                    have hh := impl_VertexFolds (some ⟨b, off, none⟩) c xs (flipT s m) W hI (by unfold maxLen; have := HN.out; omega) (by have := HFT.out; unfold maxLen; omega)
                    rw [← HN.out, hno.out] at hh
                    exact hh
                  have HCALL := Lib.hid hcall
                  have i11 : (i : Int) ≠ 0 := by clear t1 t2; omega
                  have i12 : ¬ i = 0 := by clear t1 t2; omega
                  clear hb5 hcall
                  go_wp2_with fail
                  go_region_held3 (fun w' => True) (trivial) ((go_simp; go_at_call 17; refine (HCALL.out w5.drew (Ints.drew hI5)).mono ?_; rintro e w6 ⟨rfl, hb6⟩))
                  all_goals
                   go_wp2_with fail
                   go_ret
                   exact ⟨rfl, b5.trans ((⟨hb6.os, hb6.tape, hb6.output, hb6.size, hb6.block⟩ : Below w5.heap.size w5 w6).mono b5.size)⟩

end Go.Proofs.Ytkdakceahoihjaa
