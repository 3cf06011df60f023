/- PatternInner, the program's and the reference's. No condition but sizes. Patterns: what each crease's vertices come to together. No program, no condition. The law on patterns' creases: the walk of the law itself. No condition but sizes. -/
import Derived.Test.YtnccpifdajcejaaPatK
import Derived.Test.YtnccpifdajcejaaPush
import Derived.Test.YtnccpifdajcejaaDrawQ
namespace Go.Proofs.Ytnccpifdajcejaa
open Go.RowKit

/-- of the first k creases those of two vertices -/
def innerTo (vs : List Vx) (k : Nat) : List Int := ((List.range k).filter fun (j : Nat) => decide (useN vs (j : Int) = 2)).map Int.ofNat
theorem innerTo_yes {vs : List Vx} {k : Nat} (h : useN vs (k : Int) = 2) : innerTo vs (k + 1) = innerTo vs k ++ [(k : Int)] := by
  unfold innerTo
  rw [List.range_succ, List.filter_append, List.map_append, List.filter_cons_of_pos (by simpa using h)]; rfl
theorem innerTo_no {vs : List Vx} {k : Nat} (h : ¬ useN vs (k : Int) = 2) : innerTo vs (k + 1) = innerTo vs k := by
  unfold innerTo
  rw [List.range_succ, List.filter_append, List.map_append, List.filter_cons_of_neg (by simpa using h)]; simp
theorem innerTo_len (vs : List Vx) (k : Nat) : (innerTo vs k).length ≤ k := by
  unfold innerTo
  rw [List.length_map]
  have := List.length_filter_le (fun (j : Nat) => decide (useN vs (j : Int) = 2)) (List.range k)
  simpa using this
def innerL (vs : List Vx) : List Int := if patB vs then innerTo vs (ncr vs).toNat else []
theorem innerL_len (vs : List Vx) : (innerL vs).length ≤ 10 := by
  unfold innerL
  cases hp : patB vs with
  | false => simp
  | true =>
    simp only [if_true]
    have h1 := innerTo_len vs (ncr vs).toNat
    have h2 := (patB_parts hp).2.2.2.2.2
    omega

set_option maxHeartbeats 1000000 in
theorem impl_PatternInner (A : Option Addr) (cap : Nat) (vs : List Vx) (w : World) (h : Verts w A vs) (hl : vs.length ≤ maxLen) :
    Calls Try.prog 18 #[.slice A vs.length cap] w fun e w' => ∃ v, e = .returned v ∧ Own w' w.heap.size v (innerL vs) ∧ Below w.heap.size w w' := by
  obtain ⟨w1, hw1⟩ : ∃ w1, w1 = w.alloc (.cells #[] 3) := ⟨_, rfl⟩
  have hb1 : Below w.heap.size w w1 := by rw [hw1]; exact (Below.refl _ _).alloc (Nat.le_refl _) _
  have ho1 : Own w1 w.heap.size (.slice (some ⟨w.heap.size, 0, none⟩) 0 0) [] := by rw [hw1]; exact own_empty w (Nat.le_refl _)
  have hs1 : w1.heap.size = w.heap.size + 1 := by rw [hw1]; simp
  have HW := Lib.hid hw1
  have HO1 := Lib.hid ho1
  have HS1 := Lib.hid hs1
  clear hw1 ho1 hs1
  go_enter Try.func18, Try.ntmps18
  go_wp2_with fail
  rw [← HW.out]
  refine (impl_creaseUses A cap vs w1 (h.below hb1) hl).mono ?_
  rintro e w2 ⟨U, rfl, hyes, hno, hb2⟩
  have b2 : Below w.heap.size w w2 := hb1.trans (hb2.mono hb1.size)
  have ho2 : Own w2 w.heap.size (.slice (some ⟨w.heap.size, 0, none⟩) 0 0) [] := HO1.out.kept (row := none) ⟨hb2.os, hb2.tape, hb2.output, hb2.size, fun q hq _ => hb2.block q hq⟩ (Or.inr (by simp [Value.ownBlock]))
  have hz12 := hb2.size
  cases hp : patB vs with
  | false =>
    have hv := hno hp
    subst hv
    have hin : innerL vs = [] := by unfold innerL; rw [hp]; rfl
    have HI := Lib.hid hin
    have HO := Lib.hid ho2
    have HB := Lib.hid b2
    clear hp hyes hno hin ho2 b2 hb1 hb2
    go_wp2_with fail
    go_loop [3, 6, 7, 16] (fun s3 s6 s7 s16 => s3 = .slice (some ⟨w.heap.size, 0, none⟩) 0 0 ∧ s16 = .int .i64 0) (fun _ _ _ _ => 0)
    case atStart => exact ⟨rfl, rfl⟩
    case round =>
      obtain ⟨rfl, rfl⟩ := hrel
      go_wp2_with fail
      go_ret
      exact ⟨_, rfl, by rw [HI.out]; exact HO.out, HB.out⟩
  | true =>
    have hU := hyes hp
    obtain ⟨_, _, _, _, n0, n10⟩ := patB_parts hp
    obtain ⟨n, hn⟩ : ∃ n, n = (ncr vs).toNat := ⟨_, rfl⟩
    have hin : innerL vs = innerTo vs n := by unfold innerL; rw [hp, if_pos rfl, hn]
    rw [← hn] at hU
    have hn10 : n ≤ 10 := by omega
    obtain ⟨D, cd, rfl, _, hcd, hcm⟩ := hU.form
    have hul := usesL_len vs n
    rw [hul] at hcd
    have hUb : ∀ g, (Value.slice D (usesL vs n).length cd).ownBlock = some g → w1.heap.size ≤ g ∧ g < w2.heap.size := fun g hg => hU.lt g hg
    have hap : Apart (.slice (some ⟨w.heap.size, 0, none⟩) 0 0) w1.heap.size w2.heap.size := by
      intro g hg
      left
      have : w.heap.size = g := by simpa [Value.ownBlock] using hg
      have := HS1.out
      omega
    have HI := Lib.hid hin
    have HO := Lib.hid ho2
    have HB := Lib.hid b2
    have HU := Lib.hid hU
    have HUb := Lib.hid hUb
    have HUL := Lib.hid hul
    have HAp := Lib.hid hap
    have hw2 : w.heap.size ≤ w2.heap.size := b2.size
    rw [hul]
    clear hp hyes hno hin ho2 b2 hb1 hb2 hn n0 n10 hU hUb hul hap
    go_wp2_with fail
    go_loopg [3, 6, 7, 16] (n + 1) (fun gg s3 s6 s7 s16 wr => ∃ (j : Nat), j ≤ n ∧ s16 = .int .i64 j ∧ n - j < gg ∧ Own wr w.heap.size s3 (innerTo vs j) ∧ Apart s3 w1.heap.size w2.heap.size ∧ Hid (Own wr w1.heap.size (.slice D (usesL vs n).length cd) (usesL vs n)) ∧ Hid (Below w.heap.size w wr) ∧ w2.heap.size ≤ wr.heap.size)
    case atStart => exact ⟨0, Nat.zero_le _, rfl, by omega, HO.out, HAp.out, HU, HB, Nat.le_refl _⟩
    case round =>
      clear HO HU HB HAp
      obtain ⟨j, hj, rfl, hg, hown, hap, HU, HB, hz⟩ := hrel
      cases gk with
      | zero => omega
      | succ gg =>
      by_cases hlt : j < n
      · have hI := Ints.of_own HU.out
        obtain ⟨b, off, y, rfl, hb, HX, hc, _⟩ := hI.at_ (k := j) (by rw [HUL.out]; exact hlt)
        have hy : y = (useN vs (j : Int) : Int) := by
          have h3 := List.drop_eq_getElem_cons (l := usesL vs n) (i := j) (by rw [HUL.out]; exact hlt)
          rw [HX.out] at h3
          injection h3 with h3
          rw [h3]
          have := usesL_get vs hlt
          rw [List.getElem?_eq_getElem (by rw [HUL.out]; exact hlt)] at this
          exact Option.some.inj this
        have hyu : y = 2 ↔ useN vs (j : Int) = 2 := by rw [hy]; omega
        have j1 : (j : Int) < (n : Int) := by omega
        have j0 : (0 : Int) ≤ (j : Int) := by omega
        have hlen := innerTo_len vs j
        clear hI hy
        by_cases q : y = 2
        · have d : (y == 2) = true := by rw [beq_iff_eq]; exact q
          have HY := Lib.hid (innerTo_yes (hyu.1 q))
          have hz1 := HB.out.size
          clear q hyu
          go_wp2_with (at_builtin; go_loud (refine wpList_push2 (W := wr) rfl _ _ rfl w.heap.size w1.heap.size w2.heap.size _ _ (j : Int) (by rfl) (by rfl) hown hz1 hap hz (by omega) ?_))
          intro v' w4 hown4 hgr4 hb4 hap4
          rw [← HY.out] at hown4
          have hU4 : Own w4 w1.heap.size (.slice (some ⟨b, off, none⟩) (usesL vs n).length cd) (usesL vs n) := HU.out.kept hgr4 (by
            cases hu : (Value.slice (some ⟨b, off, none⟩) (usesL vs n).length cd).ownBlock with
            | none => exact Or.inl rfl
            | some g =>
              right
              intro e
              have h5 := HUb.out g hu
              rcases hap g e.symm with h6 | h6 <;> omega)
          have HU4 := Lib.hid hU4
          have HB4 := Lib.hid (HB.out.trans hb4)
          have hz4 : w2.heap.size ≤ w4.heap.size := Nat.le_trans hz hb4.size
          clear hU4 hgr4 hb4 hown hap HU HB hlen
          go_wp2_with fail
          go_roundg gg
          case measure => omega
          case rel => exact ⟨j + 1, by omega, by go_num, by omega, hown4, hap4, HU4, HB4, hz4⟩
        · have d : (y == 2) = false := by rw [beq_eq_false_iff_ne]; exact q
          have HY := Lib.hid (innerTo_no (fun e => q (hyu.2 e)))
          clear q hyu
          go_wp2_with fail
          go_roundg gg
          case measure => omega
          case rel => exact ⟨j + 1, by omega, by go_num, by omega, by rw [HY.out]; exact hown, hap, HU, HB, hz⟩
      · obtain rfl : j = n := by omega
        go_wp2_with fail
        go_ret
        exact ⟨_, rfl, by rw [HI.out]; exact hown, HB.out⟩
set_option maxHeartbeats 1000000 in
theorem spec_PatternInner (A : Option Addr) (cap : Nat) (vs : List Vx) (w : World) (h : Verts w A vs) (hl : vs.length ≤ maxLen) :
    Calls Try.prog 26 #[.slice A vs.length cap] w fun e w' => ∃ v, e = .returned v ∧ Own w' w.heap.size v (innerL vs) ∧ Below w.heap.size w w' := by
  obtain ⟨c, hc⟩ : ∃ c, c = pcI vs := ⟨_, rfl⟩
  have hcb : -1 ≤ c ∧ c ≤ 10 := by
    rw [hc]; unfold pcI
    cases hp : patB vs with
    | false => simp
    | true =>
      have := patB_parts hp
      simp only [if_true]
      omega
  have hin : innerL vs = innerTo vs c.toNat := by
    rw [hc]; unfold innerL pcI
    cases patB vs with
    | false => rfl
    | true => rfl
  have h3 : 0 < c → vs.length ≤ 3 := by
    intro h0
    rw [hc] at h0; unfold pcI at h0
    cases hp : patB vs with
    | false => rw [hp] at h0; simp at h0
    | true => exact (patB_parts hp).2.1
  have HC := Lib.hid hc
  have HI := Lib.hid hin
  have H3 := Lib.hid h3
  clear hc hin h3
  go_enter Try.func26, Try.ntmps26
  go_wp2_with fail
  go_loopg [3, 4] (12) (fun gg s3 s4 wr => ∃ (j : Nat), (j : Int) ≤ c + 1 ∧ j ≤ 10 ∧ (j ≤ c.toNat) ∧ s4 = .int .i64 j ∧ 10 - j < gg ∧ Own wr w.heap.size s3 (innerTo vs j) ∧ Hid (Below w.heap.size w wr))
  case atStart => exact ⟨0, by omega, by omega, by omega, rfl, by omega, own_empty w (Nat.le_refl _), (Below.refl _ _).alloc (Nat.le_refl _) _⟩
  case round =>
    obtain ⟨j, hjc, hj10, hjn, rfl, hg, hown, HB⟩ := hrel
    cases gk with
    | zero => omega
    | succ gg =>
    have hz1 := HB.out.size
    have hlen := innerTo_len vs j
    go_wp2_with fail
    refine (spec_PatternCreases A cap vs wr (h.below HB.out) hl).mono ?_
    rintro e w3 ⟨rfl, hb3⟩
    rw [← HC.out]
    have hown3 : ∀ v, Own wr w.heap.size v (innerTo vs j) → Own w3 w.heap.size v (innerTo vs j) := fun v ho => ho.kept (row := none) ⟨hb3.os, hb3.tape, hb3.output, hb3.size, fun q hq _ => hb3.block q hq⟩ (by
      cases hu : v.ownBlock with
      | none => exact Or.inl rfl
      | some g => exact Or.inr (fun e => by cases e))
    have ho3 := hown3 _ hown
    have HB3 := Lib.hid (HB.out.trans (hb3.mono hz1))
    clear hown3 hown hb3
    by_cases hlt : (j : Int) < c
    · have dl : decide ((j : Int) < c) = true := by simp; omega
      have hz3 := HB3.out.size
      obtain ⟨u, hu⟩ : ∃ u, u = useN vs (j : Int) := ⟨_, rfl⟩
      have HU := Lib.hid hu
      clear hu
      have l3 := H3.out (by omega)
      go_wp2_with fail
      refine (spec_l6pUses A cap vs (j : Int) w3 (h.below HB3.out) (by omega)).mono ?_
      rintro e w' ⟨rfl, rfl⟩
      rw [← HU.out]
      by_cases q : u = 2
      · have d : ((u : Int) == 2) = true := by rw [beq_iff_eq]; omega
        have HY := Lib.hid (innerTo_yes (vs := vs) (k := j) (by rw [← HU.out]; exact q))
        clear q
        go_wp2_with (at_builtin; go_loud (refine wpList_push (W := w3) rfl _ _ rfl w.heap.size _ _ (j : Int) (by rfl) (by rfl) ho3 hz3 (by omega) ?_))
        intro v' w4 hown4 hgr4 hb4
        rw [← HY.out] at hown4
        have HB4 := Lib.hid (HB3.out.trans hb4)
        clear hgr4 hb4 ho3 hlen
        go_wp2_with fail
        go_roundg gg
        case measure => omega
        case rel => exact ⟨j + 1, by omega, by omega, by omega, by go_num, by omega, hown4, HB4⟩
      · have d : ((u : Int) == 2) = false := by rw [beq_eq_false_iff_ne]; omega
        have HY := Lib.hid (innerTo_no (vs := vs) (k := j) (by rw [← HU.out]; exact q))
        clear q
        go_wp2_with fail
        go_roundg gg
        case measure => omega
        case rel => exact ⟨j + 1, by omega, by omega, by omega, by go_num, by omega, by rw [HY.out]; exact ho3, HB3⟩
    · have dl : decide ((j : Int) < c) = false := by simp; omega
      have hjc2 : j = c.toNat := by omega
      have HJ := Lib.hid hjc2
      clear hjc2
      go_wp2_with fail
      go_ret
      exact ⟨_, rfl, by rw [HI.out, ← HJ.out]; exact ho3, HB3.out⟩
end Go.Proofs.Ytnccpifdajcejaa
namespace Go.Proofs.Ytnccpifdajcejaa

/-- how many times a number stands in the creases of vertices -/
def cntM : List Vx → Int → Nat
  | [], _ => 0
  | v :: r, z => v.2.count z + cntM r z
theorem cntM_use {vs : List Vx} (h : vs.all vtxB = true) (z : Int) : cntM vs z = useN vs z := by
  induction vs with
  | nil => rfl
  | cons v r ih =>
    rw [List.all_cons, Bool.and_eq_true] at h
    rw [cntM, useN, ih h.2]
    congr 1
    have hn : v.2.Nodup := by
      have := h.1
      unfold vtxB at this
      simp only [Bool.and_eq_true] at this
      exact ((crB_iff _).1 this.2).2
    by_cases hm : z ∈ v.2
    · rw [if_pos hm, hn.count, if_pos hm]
    · rw [if_neg hm, List.count_eq_zero.2 hm]
/-- how many angles vertices have -/
def sumA : List Vx → Nat
  | [] => 0
  | v :: r => v.1.length + sumA r
theorem sumA_snoc (vs : List Vx) (v : Vx) : sumA (vs ++ [v]) = sumA vs + v.1.length := by
  induction vs with
  | nil => simp [sumA]
  | cons u r ih => rw [List.cons_append, sumA, sumA, ih]; omega
def sumU (vs : List Vx) : Nat → Nat
  | 0 => 0
  | k + 1 => sumU vs k + useN vs (k : Int)
def cntIn (cs : List Int) : Nat → Nat
  | 0 => 0
  | k + 1 => cntIn cs k + (if (k : Int) ∈ cs then 1 else 0)
theorem cntIn_cons {c : Nat} {r : List Int} (hc : (c : Int) ∉ r) (n : Nat) : cntIn ((c : Int) :: r) n = cntIn r n + (if c < n then 1 else 0) := by
  induction n with
  | zero => simp [cntIn]
  | succ n ih =>
    rw [cntIn, cntIn, ih]
    by_cases e : n = c
    · subst e
      simp [hc]
    · have : ((n : Int) ∈ (c : Int) :: r) ↔ (n : Int) ∈ r := by
        rw [List.mem_cons]
        exact ⟨fun h => h.resolve_left (by omega), Or.inr⟩
      simp only [this]
      have e2 : (if c < n + 1 then 1 else 0) = (if c < n then 1 else (0 : Nat)) := by split <;> split <;> omega
      rw [e2]; omega
theorem cntIn_all {cs : List Int} {n : Nat} (hn : cs.Nodup) (hb : ∀ c ∈ cs, 0 ≤ c ∧ c < (n : Int)) : cntIn cs n = cs.length := by
  induction cs with
  | nil => induction n with
    | zero => rfl
    | succ n ih => rw [cntIn, ih (fun c hc => by cases hc)]; simp
  | cons c r ih =>
    obtain ⟨m, rfl⟩ : ∃ m : Nat, c = (m : Int) := ⟨c.toNat, by have := hb c (by simp); omega⟩
    rw [List.nodup_cons] at hn
    rw [cntIn_cons hn.1, ih hn.2 (fun c hc => hb c (by simp [hc])), if_pos (by have := hb (m : Int) (by simp); omega), List.length_cons]
theorem sumU_cons (v : Vx) (r : List Vx) (n : Nat) : sumU (v :: r) n = cntIn v.2 n + sumU r n := by
  induction n with
  | zero => rfl
  | succ n ih => rw [sumU, sumU, cntIn, ih, useN]; omega
theorem sumU_all {vs : List Vx} {n : Nat} (h : vs.all vtxB = true) (hb : ∀ v ∈ vs, ∀ c ∈ v.2, 0 ≤ c ∧ c < (n : Int)) : sumU vs n = sumA vs := by
  induction vs with
  | nil => induction n with
    | zero => rfl
    | succ n ih => rw [sumU, ih (fun v hv => by cases hv)]; rfl
  | cons v r ih =>
    rw [List.all_cons, Bool.and_eq_true] at h
    have h1 := h.1
    unfold vtxB at h1
    simp only [Bool.and_eq_true, decide_eq_true_eq] at h1
    rw [sumU_cons, sumA, ih h.2 (fun v hv => hb v (by simp [hv])), cntIn_all ((crB_iff _).1 h1.2).2 (hb v (by simp)), h1.1.2]
theorem sumU_inner {vs : List Vx} {n : Nat} (h : ∀ k, k < n → 1 ≤ useN vs (k : Int) ∧ useN vs (k : Int) ≤ 2) : sumU vs n = n + (innerTo vs n).length := by
  induction n with
  | zero => rfl
  | succ n ih =>
    rw [sumU, ih (fun k hk => h k (by omega))]
    have := h n (by omega)
    by_cases h2 : useN vs (n : Int) = 2
    · rw [innerTo_yes h2, List.length_append, h2]; simp; omega
    · rw [innerTo_no h2]; omega
theorem innerTo_get {vs : List Vx} {k n : Nat} (hk : k < n) (h2 : useN vs (k : Int) = 2) : (innerTo vs n)[(innerTo vs k).length]? = some (k : Int) := by
  induction n with
  | zero => omega
  | succ n ih =>
    by_cases e : k = n
    · subst e
      rw [innerTo_yes h2, List.getElem?_append_right (Nat.le_refl _), Nat.sub_self]; rfl
    · have := ih (by omega)
      have hlt := (List.getElem?_eq_some_iff.1 this).1
      by_cases h3 : useN vs (n : Int) = 2
      · rw [innerTo_yes h3, List.getElem?_append_left hlt]; exact this
      · rw [innerTo_no h3]; exact this
/-- a pattern's angles are as many as its creases and its inner ones together -/
theorem pat_sum {vs : List Vx} {n : Nat} (hp : patB vs = true) (hn : ncr vs = (n : Int)) : sumA vs = n + (innerTo vs n).length := by
  obtain ⟨_, _, hall, huse, _, _⟩ := patB_parts hp
  rw [hn, Int.toNat_natCast] at huse
  rw [← sumU_inner (fun k hk => usesOk_iff.1 huse k hk), sumU_all hall]
  intro v hv c hc
  have h1 := vtxB_bd (List.all_eq_true.1 hall v hv)
  have h2 := (ncGo_le 0 vs).2 v hv c hc
  unfold ncr at hn
  exact ⟨(h1.2.2.2.2 c hc).1, by omega⟩
theorem pat_num {vs : List Vx} (hp : patB vs = true) : ∃ n : Nat, ncr vs = (n : Int) ∧ n ≤ 10 ∧ pcI vs = (n : Int) := by
  obtain ⟨_, _, _, _, h0, h10⟩ := patB_parts hp
  exact ⟨(ncr vs).toNat, by omega, by omega, by unfold pcI; rw [hp, if_pos rfl]; omega⟩
end Go.Proofs.Ytnccpifdajcejaa
namespace Go.Proofs.Ytnccpifdajcejaa
open Go.RowKit

theorem count_drop {cs : List Int} {j : Nat} {z : Int} (h : j < cs.length) : (cs.drop j).count z = (if cs[j] = z then 1 else 0) + (cs.drop (j + 1)).count z := by
  rw [List.drop_eq_getElem_cons h, List.count_cons]
  by_cases e : cs[j] = z
  · simp [e]; omega
  · simp [e]
set_option maxHeartbeats 1000000 in
theorem laws_uses (A : Option Addr) (cap : Nat) (vs : List Vx) (z : Int) (w : World) (h : Verts w A vs) (hl : vs.length ≤ 1000) (hv : ∀ v ∈ vs, v.2.length ≤ 1000) :
    Calls Try.prog 19 #[.slice A vs.length cap, .int .i64 z] w fun e w' => e = .returned (.int .i64 (cntM vs z : Int)) ∧ w = w' := by
  have HV := Lib.hid hv
  clear hv
  go_enter Try.func19, Try.ntmps19
  go_wp2_with fail
  go_loop [5, 6, 7] (fun s5 s6 s7 => ∃ (k n : Nat), s7 = s7 ∧ k ≤ vs.length ∧ s6 = .int .i64 k ∧ s5 = .int .i64 n ∧ n ≤ 1000 * k ∧ Hid (n + cntM (vs.drop k) z = cntM vs z)) (fun _ s6 _ => vs.length - (intOf s6).toNat)
  case atStart => exact ⟨0, 0, rfl, Nat.zero_le _, rfl, rfl, by omega, by show 0 + _ = _; simp⟩
  case round =>
    obtain ⟨k, n, _, hk, rfl, rfl, hn, H⟩ := hrel
    by_cases hlt : k < vs.length
    · obtain ⟨b, off, A1, c1, A2, c2, rfl, hb, r1, r2, _, _, _, i2, l2, m2⟩ := h.at_ hlt
      have hd := List.drop_eq_getElem_cons hlt
      have hvl := HV.out vs[k] (List.getElem_mem hlt)
      obtain ⟨cs, hcs⟩ : ∃ cs, cs = vs[k].2 := ⟨_, rfl⟩
      rw [← hcs] at r2 i2 l2 hvl
      have H2 : Hid (n + cs.count z + cntM (vs.drop (k + 1)) z = cntM vs z) := by show _ = _; rw [← H.out, hd, cntM, hcs]; omega
      have k1 : (k : Int) < (vs.length : Int) := by omega
      have k0 : (0 : Int) ≤ (k : Int) := by omega
      clear hd hcs H
      go_wp2_with fail
      go_loop [5, 7] (fun s5 s7 => ∃ (j q : Nat), j ≤ cs.length ∧ s7 = .int .i64 j ∧ s5 = .int .i64 q ∧ q ≤ n + j ∧ Hid (q + (cs.drop j).count z = n + cs.count z)) (fun _ s7 => cs.length - (intOf s7).toNat)
      case atStart => exact ⟨0, n, Nat.zero_le _, rfl, rfl, by omega, by show _ = _; simp⟩
      case round =>
        obtain ⟨j, q, hj, rfl, rfl, hq, HQ⟩ := hrel
        by_cases hjl : j < cs.length
        · obtain ⟨b2, off2, rfl, hb2, hc2⟩ := i2 (by intro e; subst e; simp at hjl)
          have r3 := hc2 j cs[j] (List.getElem?_eq_getElem hjl)
          have hcd := count_drop (z := z) hjl
          obtain ⟨y, hy⟩ : ∃ y, y = cs[j] := ⟨_, rfl⟩
          rw [← hy] at r3 hcd
          have j1 : (j : Int) < (cs.length : Int) := by omega
          have j0 : (0 : Int) ≤ (j : Int) := by omega
          by_cases hyz : y = z
          · have d : (y == z) = true := by rw [beq_iff_eq]; exact hyz
            have HQ2 : Hid (q + 1 + (cs.drop (j + 1)).count z = n + cs.count z) := by show _ = _; rw [← HQ.out, hcd, if_pos hyz]; omega
            clear hyz hcd hy hc2
            go_wp2_with fail
            go_round
            case rel => exact ⟨j + 1, q + 1, by omega, by go_num, by go_num, by omega, HQ2⟩
            case measure => simp [intOf]; omega
          · have d : (y == z) = false := by rw [beq_eq_false_iff_ne]; exact hyz
            have HQ2 : Hid (q + (cs.drop (j + 1)).count z = n + cs.count z) := by show _ = _; rw [← HQ.out, hcd, if_neg hyz]; omega
            clear hyz hcd hy hc2
            go_wp2_with fail
            go_round
            case rel => exact ⟨j + 1, q, by omega, by go_num, rfl, by omega, HQ2⟩
            case measure => simp [intOf]; omega
        · obtain rfl : j = cs.length := by omega
          have hfin : q = n + cs.count z := by have := HQ.out; rw [List.drop_length] at this; simpa using this
          have H3 : Hid (q + cntM (vs.drop (k + 1)) z = cntM vs z) := by show _ = _; rw [hfin]; exact H2.out
          clear hfin
          go_wp2_with fail
          go_round
          case rel => exact ⟨k + 1, q, trivial, by omega, by go_num, rfl, by omega, H3⟩
          case measure => simp [intOf]; omega
    · obtain rfl : k = vs.length := by omega
      have hfin : n = cntM vs z := by have := H.out; rw [List.drop_length] at this; simpa [cntM] using this
      have HF := Lib.hid hfin
      clear hfin
      go_wp2_with fail
      go_ret
      exact ⟨ret_int (by rw [HF.out]), rfl⟩

set_option maxHeartbeats 2000000 in
theorem law_FnPattern (A : Option Addr) (cap : Nat) (bs : List UInt8) (w : World) (h : Codes w w.heap.size A bs) (hcap : bs.length ≤ cap) (hcm : cap ≤ maxLen) :
    Calls Try.prog 3 #[.slice A bs.length cap] w fun e w' => e = .returned (.bool true) ∧ Below w.heap.size w w' := by
  have hlm : bs.length ≤ maxLen := Nat.le_trans hcap hcm
  have hlm2 := hlm
  unfold maxLen at hlm2
  by_cases g1 : 1048576 < bs.length
  · have d1 : decide ((1048576 : Int) < (bs.length : Int)) = true := by simp; omega
    go_enter Try.func3, Try.ntmps3
    go_wp2_with fail
    go_ret
    exact ⟨rfl, Below.refl _ _⟩
  · have d1 : decide ((1048576 : Int) < (bs.length : Int)) = false := by simp; omega
    go_enter Try.func3, Try.ntmps3
    go_wp2_with fail
    refine (spec_DrawPatternValid w A cap bs h (by omega) hcap hcm).mono ?_
    rintro e w1 ⟨B, vs, c, rfl, hV, hl2, hlc, hcm2, hlen, hb1⟩
    have HLen := Lib.hid hlen
    have hlm : vs.length ≤ maxLen := by unfold maxLen; omega
    obtain ⟨p, hp⟩ : ∃ p, p = patB vs := ⟨_, rfl⟩
    have HP := Lib.hid hp
    clear hlen hp
    go_wp2_with fail
    refine (impl_PatternValid B c vs w1 hV hlm).mono ?_
    rintro e w2 ⟨rfl, hb2⟩
    rw [← HP.out]
    have b2 := below_from hb1 hb2 hb1.size
    have hV2 := hV.below hb2
    clear hb1 hb2 hV
    go_wp2_with fail
    refine (spec_PatternValid B c vs w2 hV2 hlm).mono ?_
    rintro e w3 ⟨rfl, hb3⟩
    rw [← HP.out]
    have b3 := below_from b2 hb3 b2.size
    have hV3 := hV2.below hb3
    clear b2 hb3 hV2
    cases p with
    | false =>
      go_wp2_with fail
      go_ret
      exact ⟨rfl, b3⟩
    | true =>
      obtain ⟨n, hn, hn10, hpc⟩ := pat_num HP.out.symm
      have hsum := pat_sum HP.out.symm hn
      obtain ⟨_, _, hall, huse, _, _⟩ := patB_parts HP.out.symm
      rw [hn, Int.toNat_natCast] at huse
      have hin : innerL vs = innerTo vs n := by unfold innerL; rw [← HP.out, hn]; rfl
      have HPC := Lib.hid hpc
      have HSum := Lib.hid hsum
      have HAll := Lib.hid hall
      have HUse := Lib.hid (usesOk_iff.1 huse)
      have HIn := Lib.hid hin
      clear hn hsum hall huse hin hpc
      go_wp2_with fail
      refine (impl_PatternCreases B c vs w3 hV3 hlm).mono ?_
      rintro e w4 ⟨rfl, hb4⟩
      rw [HPC.out]
      have b4 := below_from b3 hb4 b3.size
      have hV4 := hV3.below hb4
      clear b3 hb4 hV3
      go_wp2_with fail
      refine (impl_PatternInner B c vs w4 hV4 hlm).mono ?_
      rintro e w5 ⟨v5, rfl, ho5, hb5⟩
      rw [HIn.out] at ho5
      have b5 := below_from b4 hb5 b4.size
      have hV5 := hV4.below hb5
      obtain ⟨A5, c5, rfl, hI5, hc5, hm5⟩ := ho5.form
      have hil := innerTo_len vs n
      have HV5 := Lib.hid hV5
      have HB5 := Lib.hid b5
      have HI5 := Lib.hid hI5
      clear b4 hb5 hV4 ho5 hI5 hV5 b5
      go_wp2_with fail
      go_loop [8, 9] (fun s8 s9 => ∃ (k q : Nat), k ≤ vs.length ∧ s9 = .int .i64 k ∧ s8 = .int .i64 q ∧ q ≤ 4 * k ∧ Hid (q = sumA (vs.take k))) (fun _ s9 => vs.length - (intOf s9).toNat)
      case atStart => exact ⟨0, 0, Nat.zero_le _, rfl, rfl, by omega, by show _ = _; simp [sumA]⟩
      case round =>
        obtain ⟨k, q, hk, rfl, rfl, hq, HQ⟩ := hrel
        by_cases hlt : k < vs.length
        · obtain ⟨b, off, A1, c1, A2, c2, rfl, hb, r1, r2, _, l1, m1, _, _, _⟩ := HV5.out.at_ hlt
          have hlv := HLen.out vs[k] (List.getElem_mem hlt)
          have HQ2 : Hid (q + vs[k].1.length = sumA (vs.take (k + 1))) := by show _ = _; rw [List.take_succ_eq_append_getElem hlt, sumA_snoc, HQ.out]
          obtain ⟨m, hm⟩ : ∃ m, m = vs[k].1.length := ⟨_, rfl⟩
          rw [← hm] at r1 HQ2 hlv
          have k1 : (k : Int) < (vs.length : Int) := by omega
          have k0 : (0 : Int) ≤ (k : Int) := by omega
          clear hm l1
          go_wp2_with fail
          go_round
          case rel => exact ⟨k + 1, q + m, by omega, by go_num, by go_num, by omega, HQ2⟩
          case measure => simp [intOf]; omega
        · obtain rfl : k = vs.length := by omega
          have hq2 : q = n + (innerTo vs n).length := by have := HQ.out; rw [List.take_length] at this; rw [this]; exact HSum.out
          have HQ2 := Lib.hid hq2
          clear hq2 HQ
          go_wp2_with fail
          go_loop [10, 11, 12] (fun s10 s11 s12 => ∃ (j a : Nat), s12 = s12 ∧ j ≤ n ∧ s11 = .int .i64 j ∧ s10 = .int .i64 a ∧ Hid (a = (innerTo vs j).length)) (fun _ s11 _ => n - (intOf s11).toNat)
          case atStart => exact ⟨0, 0, rfl, Nat.zero_le _, rfl, rfl, rfl⟩
          case round =>
            obtain ⟨j, a, _, hj, rfl, rfl, HA⟩ := hrel
            have haj := innerTo_len vs j
            rw [← HA.out] at haj
            by_cases hjl : j < n
            · have hu := HUse.out j hjl
              obtain ⟨u, hu'⟩ : ∃ u, u = useN vs (j : Int) := ⟨_, rfl⟩
              rw [← hu'] at hu
              have hcall : Calls Try.prog 19 #[.slice B vs.length c, .int .i64 j] w5 fun e w' => e = .returned (.int .i64 (u : Int)) ∧ w5 = w' := by
                have := laws_uses B c vs (j : Int) w5 HV5.out (by omega) (fun v hv => by have := HLen.out v hv; omega)
                rwa [cntM_use HAll.out, ← hu'] at this
              have HC := Lib.hid hcall
              have HU := Lib.hid hu'
              have j1 : (j : Int) < (n : Int) := by omega
              have u1 : decide ((u : Int) < 1) = false := by simp; omega
              have u2 : decide ((2 : Int) < (u : Int)) = false := by simp; omega
              clear hcall hu'
              go_wp2_with fail
              refine HC.out.mono ?_
              rintro e w' ⟨rfl, rfl⟩
              by_cases hu2 : u = 2
              · have du : ((u : Int) == 2) = true := by rw [beq_iff_eq]; omega
                have hg := innerTo_get hjl (HU.out.symm.trans hu2)
                rw [← HA.out] at hg
                have hal : a < (innerTo vs n).length := (List.getElem?_eq_some_iff.1 hg).1
                obtain ⟨b5, off5, e5, hb5', hc5'⟩ := HI5.out (by intro e; rw [e] at hal; simp at hal)
                subst e5
                have r5 := hc5' a _ hg
                have hst := innerTo_yes (HU.out.symm.trans hu2)
                have HA2 : Hid (a + 1 = (innerTo vs (j + 1)).length) := by show _ = _; rw [hst, List.length_append, HA.out]; rfl
                have a1 : (a : Int) < ((innerTo vs n).length : Int) := by omega
                have a2 : decide (((innerTo vs n).length : Int) ≤ (a : Int)) = false := by simp; omega
                have a0 : (0 : Int) ≤ (a : Int) := by omega
                have djj : ((j : Int) != (j : Int)) = false := by simp
                clear hu2 hg hst hc5'
                go_wp2_with fail
                go_round
                case rel => exact ⟨j + 1, a + 1, trivial, by omega, by go_num, by go_num, HA2⟩
                case measure => simp [intOf]; omega
              · have du : ((u : Int) == 2) = false := by rw [beq_eq_false_iff_ne]; omega
                have hst := innerTo_no (fun e => hu2 (HU.out.trans e))
                have HA2 : Hid (a = (innerTo vs (j + 1)).length) := by show _ = _; rw [hst, HA.out]
                clear hu2 hst
                go_wp2_with fail
                go_round
                case rel => exact ⟨j + 1, a, trivial, by omega, by go_num, rfl, HA2⟩
                case measure => simp [intOf]; omega
            · obtain rfl : j = n := by omega
              obtain ⟨m, hm⟩ : ∃ m, m = (innerTo vs j).length := ⟨_, rfl⟩
              rw [← hm] at hil
              have e1 : a = m := HA.out.trans hm.symm
              have e2 : q = j + m := by rw [HQ2.out, hm]
              rw [← hm]
              have d1' : ((a : Int) == (m : Int)) = true := by rw [beq_iff_eq]; omega
              have d2' : ((q : Int) == (j : Int) + (m : Int)) = true := by rw [beq_iff_eq]; omega
              clear e1 e2 hm HA HQ2
              go_wp2_with fail
              go_ret
              exact ⟨rfl, HB5.out⟩
end Go.Proofs.Ytnccpifdajcejaa
