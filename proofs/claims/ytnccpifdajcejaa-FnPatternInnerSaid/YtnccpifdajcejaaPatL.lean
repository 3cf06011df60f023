/- PatternInner, the program's and the reference's. No condition but sizes. -/
import Derived.Test.YtnccpifdajcejaaPatK
import Derived.Test.YtnccpifdajcejaaPush
namespace Go.Proofs.Ytnccpifdajcejaa
open Go.RowKit

/-- of the first k creases those of two vertices -/
def innerTo (vs : List Vx) (k : Nat) : List Int := ((List.range k).filter fun (j : Nat) => decide (useN vs (j : Int) = 2)).map Int.ofNat
theorem innerTo_yes {vs : List Vx} {k : Nat} (h : useN vs (k : Int) = 2) : innerTo vs (k + 1) = innerTo vs k ++ [(k : Int)] := by
  unfold innerTo
  rw [List.range_succ, List.filter_append, List.map_append, List.filter_cons_of_pos (by simpa using h)]; rfl
theorem innerTo_no {vs : List Vx} {k : Nat} (h : ¬ useN vs (k : Int) = 2) : innerTo vs (k + 1) = innerTo vs k := by
  unfold innerTo
  rw [List.range_succ, List.filter_append, List.map_append, List.filter_cons_of_neg (by simpa using h)]; simp
theorem innerTo_len (vs : List Vx) (k : Nat) : (innerTo vs k).length ≤ k := by
  unfold innerTo
  rw [List.length_map]
  have := List.length_filter_le (fun (j : Nat) => decide (useN vs (j : Int) = 2)) (List.range k)
  simpa using this
def innerL (vs : List Vx) : List Int := if patB vs then innerTo vs (ncr vs).toNat else []
theorem innerL_len (vs : List Vx) : (innerL vs).length ≤ 10 := by
  unfold innerL
  cases hp : patB vs with
  | false => simp
  | true =>
    simp only [if_true]
    have h1 := innerTo_len vs (ncr vs).toNat
    have h2 := (patB_parts hp).2.2.2.2.2
    omega

set_option maxHeartbeats 1000000 in
theorem impl_PatternInner (A : Option Addr) (cap : Nat) (vs : List Vx) (w : World) (h : Verts w A vs) (hl : vs.length ≤ maxLen) :
    Calls Try.prog 18 #[.slice A vs.length cap] w fun e w' => ∃ v, e = .returned v ∧ Own w' w.heap.size v (innerL vs) ∧ Below w.heap.size w w' := by
  obtain ⟨w1, hw1⟩ : ∃ w1, w1 = w.alloc (.cells #[] 3) := ⟨_, rfl⟩
  have hb1 : Below w.heap.size w w1 := by rw [hw1]; exact (Below.refl _ _).alloc (Nat.le_refl _) _
  have ho1 : Own w1 w.heap.size (.slice (some ⟨w.heap.size, 0, none⟩) 0 0) [] := by rw [hw1]; exact own_empty w (Nat.le_refl _)
  have hs1 : w1.heap.size = w.heap.size + 1 := by rw [hw1]; simp
  have HW := Lib.hid hw1
  have HO1 := Lib.hid ho1
  have HS1 := Lib.hid hs1
  clear hw1 ho1 hs1
  go_enter Try.func18, Try.ntmps18
  go_wp2_with fail
  rw [← HW.out]
  refine (impl_creaseUses A cap vs w1 (h.below hb1) hl).mono ?_
  rintro e w2 ⟨U, rfl, hyes, hno, hb2⟩
  have b2 : Below w.heap.size w w2 := hb1.trans (hb2.mono hb1.size)
  have ho2 : Own w2 w.heap.size (.slice (some ⟨w.heap.size, 0, none⟩) 0 0) [] := HO1.out.kept (row := none) ⟨hb2.os, hb2.tape, hb2.output, hb2.size, fun q hq _ => hb2.block q hq⟩ (Or.inr (by simp [Value.ownBlock]))
  have hz12 := hb2.size
  cases hp : patB vs with
  | false =>
    have hv := hno hp
    subst hv
    have hin : innerL vs = [] := by unfold innerL; rw [hp]; rfl
    have HI := Lib.hid hin
    have HO := Lib.hid ho2
    have HB := Lib.hid b2
    clear hp hyes hno hin ho2 b2 hb1 hb2
    go_wp2_with fail
    go_loop [3, 6, 7, 16] (fun s3 s6 s7 s16 => s3 = .slice (some ⟨w.heap.size, 0, none⟩) 0 0 ∧ s16 = .int .i64 0) (fun _ _ _ _ => 0)
    case atStart => exact ⟨rfl, rfl⟩
    case round =>
      obtain ⟨rfl, rfl⟩ := hrel
      go_wp2_with fail
      go_ret
      exact ⟨_, rfl, by rw [HI.out]; exact HO.out, HB.out⟩
  | true =>
    have hU := hyes hp
    obtain ⟨_, _, _, _, n0, n10⟩ := patB_parts hp
    obtain ⟨n, hn⟩ : ∃ n, n = (ncr vs).toNat := ⟨_, rfl⟩
    have hin : innerL vs = innerTo vs n := by unfold innerL; rw [hp, if_pos rfl, hn]
    rw [← hn] at hU
    have hn10 : n ≤ 10 := by omega
    obtain ⟨D, cd, rfl, _, hcd, hcm⟩ := hU.form
    have hul := usesL_len vs n
    rw [hul] at hcd
    have hUb : ∀ g, (Value.slice D (usesL vs n).length cd).ownBlock = some g → w1.heap.size ≤ g ∧ g < w2.heap.size := fun g hg => hU.lt g hg
    have hap : Apart (.slice (some ⟨w.heap.size, 0, none⟩) 0 0) w1.heap.size w2.heap.size := by
      intro g hg
      left
      have : w.heap.size = g := by simpa [Value.ownBlock] using hg
      have := HS1.out
      omega
    have HI := Lib.hid hin
    have HO := Lib.hid ho2
    have HB := Lib.hid b2
    have HU := Lib.hid hU
    have HUb := Lib.hid hUb
    have HUL := Lib.hid hul
    have HAp := Lib.hid hap
    have hw2 : w.heap.size ≤ w2.heap.size := b2.size
    rw [hul]
    clear hp hyes hno hin ho2 b2 hb1 hb2 hn n0 n10 hU hUb hul hap
    go_wp2_with fail
    go_loopg [3, 6, 7, 16] (n + 1) (fun gg s3 s6 s7 s16 wr => ∃ (j : Nat), j ≤ n ∧ s16 = .int .i64 j ∧ n - j < gg ∧ Own wr w.heap.size s3 (innerTo vs j) ∧ Apart s3 w1.heap.size w2.heap.size ∧ Hid (Own wr w1.heap.size (.slice D (usesL vs n).length cd) (usesL vs n)) ∧ Hid (Below w.heap.size w wr) ∧ w2.heap.size ≤ wr.heap.size)
    case atStart => exact ⟨0, Nat.zero_le _, rfl, by omega, HO.out, HAp.out, HU, HB, Nat.le_refl _⟩
    case round =>
      clear HO HU HB HAp
      obtain ⟨j, hj, rfl, hg, hown, hap, HU, HB, hz⟩ := hrel
      cases gk with
      | zero => omega
      | succ gg =>
      by_cases hlt : j < n
      · have hI := Ints.of_own HU.out
        obtain ⟨b, off, y, rfl, hb, HX, hc, _⟩ := hI.at_ (k := j) (by rw [HUL.out]; exact hlt)
        have hy : y = (useN vs (j : Int) : Int) := by
          have h3 := List.drop_eq_getElem_cons (l := usesL vs n) (i := j) (by rw [HUL.out]; exact hlt)
          rw [HX.out] at h3
          injection h3 with h3
          rw [h3]
          have := usesL_get vs hlt
          rw [List.getElem?_eq_getElem (by rw [HUL.out]; exact hlt)] at this
          exact Option.some.inj this
        have hyu : y = 2 ↔ useN vs (j : Int) = 2 := by rw [hy]; omega
        have j1 : (j : Int) < (n : Int) := by omega
        have j0 : (0 : Int) ≤ (j : Int) := by omega
        have hlen := innerTo_len vs j
        clear hI hy
        by_cases q : y = 2
        · have d : (y == 2) = true := by rw [beq_iff_eq]; exact q
          have HY := Lib.hid (innerTo_yes (hyu.1 q))
          have hz1 := HB.out.size
          clear q hyu
          go_wp2_with (at_builtin; go_loud (refine wpList_push2 (W := wr) rfl _ _ rfl w.heap.size w1.heap.size w2.heap.size _ _ (j : Int) (by rfl) (by rfl) hown hz1 hap hz (by omega) ?_))
          intro v' w4 hown4 hgr4 hb4 hap4
          rw [← HY.out] at hown4
          have hU4 : Own w4 w1.heap.size (.slice (some ⟨b, off, none⟩) (usesL vs n).length cd) (usesL vs n) := HU.out.kept hgr4 (by
            cases hu : (Value.slice (some ⟨b, off, none⟩) (usesL vs n).length cd).ownBlock with
            | none => exact Or.inl rfl
            | some g =>
              right
              intro e
              have h5 := HUb.out g hu
              rcases hap g e.symm with h6 | h6 <;> omega)
          have HU4 := Lib.hid hU4
          have HB4 := Lib.hid (HB.out.trans hb4)
          have hz4 : w2.heap.size ≤ w4.heap.size := Nat.le_trans hz hb4.size
          clear hU4 hgr4 hb4 hown hap HU HB hlen
          go_wp2_with fail
          go_roundg gg
          case measure => omega
          case rel => exact ⟨j + 1, by omega, by go_num, by omega, hown4, hap4, HU4, HB4, hz4⟩
        · have d : (y == 2) = false := by rw [beq_eq_false_iff_ne]; exact q
          have HY := Lib.hid (innerTo_no (fun e => q (hyu.2 e)))
          clear q hyu
          go_wp2_with fail
          go_roundg gg
          case measure => omega
          case rel => exact ⟨j + 1, by omega, by go_num, by omega, by rw [HY.out]; exact hown, hap, HU, HB, hz⟩
      · obtain rfl : j = n := by omega
        go_wp2_with fail
        go_ret
        exact ⟨_, rfl, by rw [HI.out]; exact hown, HB.out⟩
set_option maxHeartbeats 1000000 in
theorem spec_PatternInner (A : Option Addr) (cap : Nat) (vs : List Vx) (w : World) (h : Verts w A vs) (hl : vs.length ≤ maxLen) :
    Calls Try.prog 26 #[.slice A vs.length cap] w fun e w' => ∃ v, e = .returned v ∧ Own w' w.heap.size v (innerL vs) ∧ Below w.heap.size w w' := by
  obtain ⟨c, hc⟩ : ∃ c, c = pcI vs := ⟨_, rfl⟩
  have hcb : -1 ≤ c ∧ c ≤ 10 := by
    rw [hc]; unfold pcI
    cases hp : patB vs with
    | false => simp
    | true =>
      have := patB_parts hp
      simp only [if_true]
      omega
  have hin : innerL vs = innerTo vs c.toNat := by
    rw [hc]; unfold innerL pcI
    cases patB vs with
    | false => rfl
    | true => rfl
  have h3 : 0 < c → vs.length ≤ 3 := by
    intro h0
    rw [hc] at h0; unfold pcI at h0
    cases hp : patB vs with
    | false => rw [hp] at h0; simp at h0
    | true => exact (patB_parts hp).2.1
  have HC := Lib.hid hc
  have HI := Lib.hid hin
  have H3 := Lib.hid h3
  clear hc hin h3
  go_enter Try.func26, Try.ntmps26
  go_wp2_with fail
  go_loopg [3, 4] (12) (fun gg s3 s4 wr => ∃ (j : Nat), (j : Int) ≤ c + 1 ∧ j ≤ 10 ∧ (j ≤ c.toNat) ∧ s4 = .int .i64 j ∧ 10 - j < gg ∧ Own wr w.heap.size s3 (innerTo vs j) ∧ Hid (Below w.heap.size w wr))
  case atStart => exact ⟨0, by omega, by omega, by omega, rfl, by omega, own_empty w (Nat.le_refl _), (Below.refl _ _).alloc (Nat.le_refl _) _⟩
  case round =>
    obtain ⟨j, hjc, hj10, hjn, rfl, hg, hown, HB⟩ := hrel
    cases gk with
    | zero => omega
    | succ gg =>
    have hz1 := HB.out.size
    have hlen := innerTo_len vs j
    go_wp2_with fail
    refine (spec_PatternCreases A cap vs wr (h.below HB.out) hl).mono ?_
    rintro e w3 ⟨rfl, hb3⟩
    rw [← HC.out]
    have hown3 : ∀ v, Own wr w.heap.size v (innerTo vs j) → Own w3 w.heap.size v (innerTo vs j) := fun v ho => ho.kept (row := none) ⟨hb3.os, hb3.tape, hb3.output, hb3.size, fun q hq _ => hb3.block q hq⟩ (by
      cases hu : v.ownBlock with
      | none => exact Or.inl rfl
      | some g => exact Or.inr (fun e => by cases e))
    have ho3 := hown3 _ hown
    have HB3 := Lib.hid (HB.out.trans (hb3.mono hz1))
    clear hown3 hown hb3
    by_cases hlt : (j : Int) < c
    · have dl : decide ((j : Int) < c) = true := by simp; omega
      have hz3 := HB3.out.size
      obtain ⟨u, hu⟩ : ∃ u, u = useN vs (j : Int) := ⟨_, rfl⟩
      have HU := Lib.hid hu
      clear hu
      have l3 := H3.out (by omega)
      go_wp2_with fail
      refine (spec_l6pUses A cap vs (j : Int) w3 (h.below HB3.out) (by omega)).mono ?_
      rintro e w' ⟨rfl, rfl⟩
      rw [← HU.out]
      by_cases q : u = 2
      · have d : ((u : Int) == 2) = true := by rw [beq_iff_eq]; omega
        have HY := Lib.hid (innerTo_yes (vs := vs) (k := j) (by rw [← HU.out]; exact q))
        clear q
        go_wp2_with (at_builtin; go_loud (refine wpList_push (W := w3) rfl _ _ rfl w.heap.size _ _ (j : Int) (by rfl) (by rfl) ho3 hz3 (by omega) ?_))
        intro v' w4 hown4 hgr4 hb4
        rw [← HY.out] at hown4
        have HB4 := Lib.hid (HB3.out.trans hb4)
        clear hgr4 hb4 ho3 hlen
        go_wp2_with fail
        go_roundg gg
        case measure => omega
        case rel => exact ⟨j + 1, by omega, by omega, by omega, by go_num, by omega, hown4, HB4⟩
      · have d : ((u : Int) == 2) = false := by rw [beq_eq_false_iff_ne]; omega
        have HY := Lib.hid (innerTo_no (vs := vs) (k := j) (by rw [← HU.out]; exact q))
        clear q
        go_wp2_with fail
        go_roundg gg
        case measure => omega
        case rel => exact ⟨j + 1, by omega, by omega, by omega, by go_num, by omega, by rw [HY.out]; exact ho3, HB3⟩
    · have dl : decide ((j : Int) < c) = false := by simp; omega
      have hjc2 : j = c.toNat := by omega
      have HJ := Lib.hid hjc2
      clear hjc2
      go_wp2_with fail
      go_ret
      exact ⟨_, rfl, by rw [HI.out, ← HJ.out]; exact ho3, HB3.out⟩
end Go.Proofs.Ytnccpifdajcejaa
