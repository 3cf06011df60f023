/- The corner of a text, as the program tells it and as the reference does. No condition. -/
import Derived.Test.YtdpfnhkhojiddaaSpkJ
import Derived.Test.YtdpfnhkhojiddaaChkA
import Derived.Test.YtdpfnhkhojiddaaChkB
import Derived.Test.YtdpfnhkhojiddaaChkC
import Derived.Test.YtdpfnhkhojiddaaChkD
namespace Go.Proofs.Ytdpfnhkhojiddaa
open Go.RowKit

theorem letters_mem {c : UInt8} (h : (wideL c || highB c) = true) : c ∈ letters := by
  rcases letter_cases h with rfl | rfl | rfl | rfl | rfl | rfl | rfl | rfl <;> decide
theorem texts_mem {l : List UInt8} (h : ∀ c ∈ l, (wideL c || highB c) = true) : l ∈ textsN l.length := by
  induction l with
  | nil => simp [textsN]
  | cons c r ih =>
    rw [List.length_cons]
    unfold textsN
    refine List.mem_flatMap.2 ⟨r, ih (fun d hd => h d (by simp [hd])), List.mem_map.2 ⟨c, letters_mem (h c (by simp)), rfl⟩⟩
/-- the texts that the reference draws: short ones, one of five letters, and what is no sheet -/
def DrawT (l : List UInt8) : Prop := shB l = true → l.length ≤ 4 ∨ l = [82, 85, 76, 68, 114]
theorem chk_all {l : List UInt8} (hd : DrawT l) (hs : shB l = true) : chkB l = true := by
  obtain ⟨h5, hall⟩ := shB_parts hs
  have hm := texts_mem hall
  rcases hd hs with h | rfl
  · obtain ⟨n, hn⟩ : ∃ n, n = l.length := ⟨_, rfl⟩
    rw [← hn] at hm h
    match n, h, hm with
    | 0, _, hm => exact List.all_eq_true.1 chk0 _ hm
    | 1, _, hm => exact List.all_eq_true.1 chk1 _ hm
    | 2, _, hm => exact List.all_eq_true.1 chk2 _ hm
    | 3, _, hm => exact List.all_eq_true.1 chk3 _ hm
    | 4, _, _ =>
      match l, hn, hall with
      | c :: t, hn, hall =>
        have ht := texts_mem (l := t) (fun d hd => hall d (by simp [hd]))
        have hl : t.length = 3 := by simp at hn; omega
        rw [hl] at ht
        rcases letter_cases (hall c (by simp)) with rfl | rfl | rfl | rfl | rfl | rfl | rfl | rfl
        · exact List.all_eq_true.1 chk4_82 _ ht
        · exact List.all_eq_true.1 chk4_76 _ ht
        · exact List.all_eq_true.1 chk4_114 _ ht
        · exact List.all_eq_true.1 chk4_108 _ ht
        · exact List.all_eq_true.1 chk4_85 _ ht
        · exact List.all_eq_true.1 chk4_68 _ ht
        · exact List.all_eq_true.1 chk4_117 _ ht
        · exact List.all_eq_true.1 chk4_100 _ ht
    | (k + 5), h, _ => omega
  · exact chk5
theorem level_at {T : List Cl} {r c k : Nat} (h : levelT T r c = some k) : ∃ hk : k < T.length, T[k].1 = r ∧ T[k].2.1 = c := by
  unfold levelT at h
  obtain ⟨hk, h1, _⟩ := List.findIdx?_eq_some_iff_getElem.1 h
  simp only [Bool.and_eq_true, decide_eq_true_eq] at h1
  exact ⟨hk, h1.1, h1.2⟩
theorem crO_level {l : List UInt8} (hs : shB l = true) {r c r' c' a b : Nat} (h1 : levelT (stackT l) r c = some a) (h2 : levelT (stackT l) r' c' = some b) (hr : r < rowsT l) (hc : c < colsT l) (hr' : r' < rowsT l) (hc' : c' < colsT l) :
    crO l r c r' c' = [creaseT (stackT l) a b] := by
  have e1 : cellO l r c = some (a, ((stackT l)[a]?).getD (0, 0, false, false)) := by
    unfold cellO
    rw [if_pos ⟨hs, by omega, by omega, by omega, by omega⟩, Int.toNat_natCast, Int.toNat_natCast, h1]; rfl
  have e2 : cellO l r' c' = some (b, ((stackT l)[b]?).getD (0, 0, false, false)) := by
    unfold cellO
    rw [if_pos ⟨hs, by omega, by omega, by omega, by omega⟩, Int.toNat_natCast, Int.toNat_natCast, h2]; rfl
  rw [crO_some e1 e2]
  unfold creaseT
  by_cases h : b < a
  · rw [if_pos h, Nat.min_eq_right (by omega)]
  · rw [if_neg h, Nat.min_eq_left (by omega)]
theorem crsT_level {T : List Cl} {r c r' c' a b : Nat} (h1 : levelT T r c = some a) (h2 : levelT T r' c' = some b) : crsT T r c r' c' = [creaseT T a b] := by
  unfold crsT; rw [h1, h2]
theorem crsT_both {T : List Cl} {r c r' c' : Nat} (h : crsT T r c r' c' ≠ []) : ∃ a b, levelT T r c = some a ∧ levelT T r' c' = some b := by
  unfold crsT at h
  split at h
  · next a b h1 h2 => exact ⟨a, b, h1, h2⟩
  · exact absurd rfl h
theorem corn_eq {l : List UInt8} (hd : DrawT l) (r c : Int) : cornO l r c = cornS l r c ∧ ∀ o, cornO l r c = some o → threeB o = true := by
  cases hs : shB l with
  | false =>
    have h1 : cornO l r c = none := by unfold cornO; rw [if_neg (by rw [hs]; intro h; cases h.1)]
    have h2 : cornS l r c = none := by
      unfold cornS
      rw [stkO_no hs]
      have : cornerT [] r.toNat c.toNat = [] := rfl
      rw [this]
      split <;> rfl
    rw [h1, h2]
    exact ⟨rfl, fun o e => by cases e⟩
  | true =>
    have hk := chk_all hd hs
    unfold chkB chkT at hk
    rw [Bool.and_eq_true] at hk
    obtain ⟨hin, hcor⟩ := hk
    have hlev : ∀ {r c k : Nat}, levelT (stackT l) r c = some k → r < rowsT l ∧ c < colsT l := by
      intro r c k h
      obtain ⟨hk, e1, e2⟩ := level_at h
      have := List.all_eq_true.1 hin _ (List.getElem_mem hk)
      rw [Bool.and_eq_true] at this
      have q1 : Nat.blt (stackT l)[k].1 (rowsT l) = true := this.1
      have q2 : Nat.blt (stackT l)[k].2.1 (colsT l) = true := this.2
      rw [Nat.blt_eq] at q1 q2
      omega
    obtain ⟨q1, q2⟩ := shB_parts hs
    have hR := rowsT_le q1
    have hC := colsT_le q1
    by_cases hA : inT l r c = true ∧ inT l (r + 1) (c + 1) = true
    · have hA' := hA
      unfold inT at hA
      simp only [Bool.and_eq_true, decide_eq_true_eq] at hA
      obtain ⟨rn, rfl⟩ : ∃ n : Nat, r = (n : Int) := ⟨r.toNat, by omega⟩
      obtain ⟨cn, rfl⟩ : ∃ n : Nat, c = (n : Int) := ⟨c.toNat, by omega⟩
      have hr1 : rn + 1 < rowsT l := by omega
      have hc1 : cn + 1 < colsT l := by omega
      have h4 := List.all_eq_true.1 (List.all_eq_true.1 hcor rn (List.mem_range.2 (by omega))) cn (List.mem_range.2 (by omega))
      unfold cor4 at h4
      split at h4
      · next a b d e g1 g2 g3 g4 =>
        have ec : ((cn : Int) + 1) = ((cn + 1 : Nat) : Int) := by omega
        have er : ((rn : Int) + 1) = ((rn + 1 : Nat) : Int) := by omega
        have h1 : cornO l rn cn = some [creaseT (stackT l) a b, creaseT (stackT l) b d, creaseT (stackT l) e d, creaseT (stackT l) a e] := by
          unfold cornO
          rw [if_pos ⟨hs, hA'⟩, ec, er, crO_level hs g1 g2 (by omega) (by omega) (by omega) (by omega), crO_level hs g2 g3 (by omega) (by omega) (by omega) (by omega), crO_level hs g4 g3 (by omega) (by omega) (by omega) (by omega), crO_level hs g1 g4 (by omega) (by omega) (by omega) (by omega)]
          rfl
        have h2 : cornS l rn cn = some [creaseT (stackT l) a b, creaseT (stackT l) b d, creaseT (stackT l) e d, creaseT (stackT l) a e] := by
          have hcn : cornerT (stackT l) rn cn = [creaseT (stackT l) a b, creaseT (stackT l) b d, creaseT (stackT l) e d, creaseT (stackT l) a e] := by
            unfold cornerT
            rw [crsT_level g1 g2, crsT_level g2 g3, crsT_level g4 g3, crsT_level g1 g4]; rfl
          unfold cornS
          rw [stkO_yes hs, if_pos ⟨inB_yes (by omega) (by omega), inB_yes (by omega) (by omega)⟩, Int.toNat_natCast, Int.toNat_natCast, hcn]
          exact if_pos rfl
        rw [h1, h2]
        exact ⟨rfl, fun o e => by cases e; exact h4⟩
      · cases h4
    · have h1 : cornO l r c = none := by unfold cornO; rw [if_neg (fun h => hA h.2)]
      have h2 : cornS l r c = none := by
        unfold cornS
        rw [stkO_yes hs]
        split
        · next hb =>
          split
          · next hlen =>
            exfalso
            apply hA
            obtain ⟨b1, b2⟩ := hb
            unfold inB at b1 b2
            simp only [Bool.and_eq_true, decide_eq_true_eq] at b1 b2
            obtain ⟨rn, rfl⟩ : ∃ n : Nat, r = (n : Int) := ⟨r.toNat, by omega⟩
            obtain ⟨cn, rfl⟩ : ∃ n : Nat, c = (n : Int) := ⟨c.toNat, by omega⟩
            rw [Int.toNat_natCast, Int.toNat_natCast] at hlen
            unfold cornerT at hlen
            simp only [List.length_append] at hlen
            have l1 := crsT_len (stackT l) rn cn rn (cn + 1)
            have l2 := crsT_len (stackT l) rn (cn + 1) (rn + 1) (cn + 1)
            have l3 := crsT_len (stackT l) (rn + 1) cn (rn + 1) (cn + 1)
            have l4 := crsT_len (stackT l) rn cn (rn + 1) cn
            obtain ⟨a, b, g1, g2⟩ := crsT_both (T := stackT l) (r := rn) (c := cn) (r' := rn) (c' := cn + 1) (fun e => by rw [e, List.length_nil] at hlen; omega)
            obtain ⟨_, d, _, g3⟩ := crsT_both (T := stackT l) (r := rn) (c := cn + 1) (r' := rn + 1) (c' := cn + 1) (fun e => by rw [e, List.length_nil] at hlen; omega)
            have m1 := hlev g1
            have m3 := hlev g3
            unfold inT
            simp only [Bool.and_eq_true, decide_eq_true_eq]
            omega
          · rfl
        · rfl
      rw [h1, h2]
      exact ⟨rfl, fun o e => by cases e⟩
end Go.Proofs.Ytdpfnhkhojiddaa
