/- PatternInner, the program's and the reference's. No condition but sizes. Patterns: what each crease's vertices come to together. No program, no condition. The laws that the program's PatternValid and PatternCreases are the reference's: the walks of the laws themselves. No condition but sizes. PatternFirst, the program's and the reference's; the law's walk. No condition but sizes. -/
import Derived.Test.YtnccpifdajcejaaPatK
import Derived.Test.YtnccpifdajcejaaPush
import Derived.Test.YtnccpifdajcejaaFnPatternTurnP48
import Derived.Test.YtnccpifdajcejaaFnPatternTurnP46
namespace Go.Proofs.Ytnccpifdajcejaa
open Go.RowKit

/-- of the first k creases those of two vertices -/
def innerTo (vs : List Vx) (k : Nat) : List Int := ((List.range k).filter fun (j : Nat) => decide (useN vs (j : Int) = 2)).map Int.ofNat
theorem innerTo_yes {vs : List Vx} {k : Nat} (h : useN vs (k : Int) = 2) : innerTo vs (k + 1) = innerTo vs k ++ [(k : Int)] := by
  unfold innerTo
  rw [List.range_succ, List.filter_append, List.map_append, List.filter_cons_of_pos (by simpa using h)]; rfl
theorem innerTo_no {vs : List Vx} {k : Nat} (h : ¬ useN vs (k : Int) = 2) : innerTo vs (k + 1) = innerTo vs k := by
  unfold innerTo
  rw [List.range_succ, List.filter_append, List.map_append, List.filter_cons_of_neg (by simpa using h)]; simp
theorem innerTo_len (vs : List Vx) (k : Nat) : (innerTo vs k).length ≤ k := by
  unfold innerTo
  rw [List.length_map]
  have := List.length_filter_le (fun (j : Nat) => decide (useN vs (j : Int) = 2)) (List.range k)
  simpa using this
def innerL (vs : List Vx) : List Int := if patB vs then innerTo vs (ncr vs).toNat else []
theorem innerL_len (vs : List Vx) : (innerL vs).length ≤ 10 := by
  unfold innerL
  cases hp : patB vs with
  | false => simp
  | true =>
    simp only [if_true]
    have h1 := innerTo_len vs (ncr vs).toNat
    have h2 := (patB_parts hp).2.2.2.2.2
    omega

set_option maxHeartbeats 1000000 in
theorem impl_PatternInner (A : Option Addr) (cap : Nat) (vs : List Vx) (w : World) (h : Verts w A vs) (hl : vs.length ≤ maxLen) :
    Calls Try.prog 18 #[.slice A vs.length cap] w fun e w' => ∃ v, e = .returned v ∧ Own w' w.heap.size v (innerL vs) ∧ Below w.heap.size w w' := by
  obtain ⟨w1, hw1⟩ : ∃ w1, w1 = w.alloc (.cells #[] 3) := ⟨_, rfl⟩
  have hb1 : Below w.heap.size w w1 := by rw [hw1]; exact (Below.refl _ _).alloc (Nat.le_refl _) _
  have ho1 : Own w1 w.heap.size (.slice (some ⟨w.heap.size, 0, none⟩) 0 0) [] := by rw [hw1]; exact own_empty w (Nat.le_refl _)
  have hs1 : w1.heap.size = w.heap.size + 1 := by rw [hw1]; simp
  have HW := Lib.hid hw1
  have HO1 := Lib.hid ho1
  have HS1 := Lib.hid hs1
  clear hw1 ho1 hs1
  go_enter Try.func18, Try.ntmps18
  go_wp2_with fail
  rw [← HW.out]
  refine (impl_creaseUses A cap vs w1 (h.below hb1) hl).mono ?_
  rintro e w2 ⟨U, rfl, hyes, hno, hb2⟩
  have b2 : Below w.heap.size w w2 := hb1.trans (hb2.mono hb1.size)
  have ho2 : Own w2 w.heap.size (.slice (some ⟨w.heap.size, 0, none⟩) 0 0) [] := HO1.out.kept (row := none) ⟨hb2.os, hb2.tape, hb2.output, hb2.size, fun q hq _ => hb2.block q hq⟩ (Or.inr (by simp [Value.ownBlock]))
  have hz12 := hb2.size
  cases hp : patB vs with
  | false =>
    have hv := hno hp
    subst hv
    have hin : innerL vs = [] := by unfold innerL; rw [hp]; rfl
    have HI := Lib.hid hin
    have HO := Lib.hid ho2
    have HB := Lib.hid b2
    clear hp hyes hno hin ho2 b2 hb1 hb2
    go_wp2_with fail
    go_loop [3, 6, 7, 16] (fun s3 s6 s7 s16 => s3 = .slice (some ⟨w.heap.size, 0, none⟩) 0 0 ∧ s16 = .int .i64 0) (fun _ _ _ _ => 0)
    case atStart => exact ⟨rfl, rfl⟩
    case round =>
      obtain ⟨rfl, rfl⟩ := hrel
      go_wp2_with fail
      go_ret
      exact ⟨_, rfl, by rw [HI.out]; exact HO.out, HB.out⟩
  | true =>
    have hU := hyes hp
    obtain ⟨_, _, _, _, n0, n10⟩ := patB_parts hp
    obtain ⟨n, hn⟩ : ∃ n, n = (ncr vs).toNat := ⟨_, rfl⟩
    have hin : innerL vs = innerTo vs n := by unfold innerL; rw [hp, if_pos rfl, hn]
    rw [← hn] at hU
    have hn10 : n ≤ 10 := by omega
    obtain ⟨D, cd, rfl, _, hcd, hcm⟩ := hU.form
    have hul := usesL_len vs n
    rw [hul] at hcd
    have hUb : ∀ g, (Value.slice D (usesL vs n).length cd).ownBlock = some g → w1.heap.size ≤ g ∧ g < w2.heap.size := fun g hg => hU.lt g hg
    have hap : Apart (.slice (some ⟨w.heap.size, 0, none⟩) 0 0) w1.heap.size w2.heap.size := by
      intro g hg
      left
      have : w.heap.size = g := by simpa [Value.ownBlock] using hg
      have := HS1.out
      omega
    have HI := Lib.hid hin
    have HO := Lib.hid ho2
    have HB := Lib.hid b2
    have HU := Lib.hid hU
    have HUb := Lib.hid hUb
    have HUL := Lib.hid hul
    have HAp := Lib.hid hap
    have hw2 : w.heap.size ≤ w2.heap.size := b2.size
    rw [hul]
    clear hp hyes hno hin ho2 b2 hb1 hb2 hn n0 n10 hU hUb hul hap
    go_wp2_with fail
    go_loopg [3, 6, 7, 16] (n + 1) (fun gg s3 s6 s7 s16 wr => ∃ (j : Nat), j ≤ n ∧ s16 = .int .i64 j ∧ n - j < gg ∧ Own wr w.heap.size s3 (innerTo vs j) ∧ Apart s3 w1.heap.size w2.heap.size ∧ Hid (Own wr w1.heap.size (.slice D (usesL vs n).length cd) (usesL vs n)) ∧ Hid (Below w.heap.size w wr) ∧ w2.heap.size ≤ wr.heap.size)
    case atStart => exact ⟨0, Nat.zero_le _, rfl, by omega, HO.out, HAp.out, HU, HB, Nat.le_refl _⟩
    case round =>
      clear HO HU HB HAp
      obtain ⟨j, hj, rfl, hg, hown, hap, HU, HB, hz⟩ := hrel
      cases gk with
      | zero => omega
      | succ gg =>
      by_cases hlt : j < n
      · have hI := Ints.of_own HU.out
        obtain ⟨b, off, y, rfl, hb, HX, hc, _⟩ := hI.at_ (k := j) (by rw [HUL.out]; exact hlt)
        have hy : y = (useN vs (j : Int) : Int) := by
          have h3 := List.drop_eq_getElem_cons (l := usesL vs n) (i := j) (by rw [HUL.out]; exact hlt)
          rw [HX.out] at h3
          injection h3 with h3
          rw [h3]
          have := usesL_get vs hlt
          rw [List.getElem?_eq_getElem (by rw [HUL.out]; exact hlt)] at this
          exact Option.some.inj this
        have hyu : y = 2 ↔ useN vs (j : Int) = 2 := by rw [hy]; omega
        have j1 : (j : Int) < (n : Int) := by omega
        have j0 : (0 : Int) ≤ (j : Int) := by omega
        have hlen := innerTo_len vs j
        clear hI hy
        by_cases q : y = 2
        · have d : (y == 2) = true := by rw [beq_iff_eq]; exact q
          have HY := Lib.hid (innerTo_yes (hyu.1 q))
          have hz1 := HB.out.size
          clear q hyu
          go_wp2_with (at_builtin; go_loud (refine wpList_push2 (W := wr) rfl _ _ rfl w.heap.size w1.heap.size w2.heap.size _ _ (j : Int) (by rfl) (by rfl) hown hz1 hap hz (by omega) ?_))
          intro v' w4 hown4 hgr4 hb4 hap4
          rw [← HY.out] at hown4
          have hU4 : Own w4 w1.heap.size (.slice (some ⟨b, off, none⟩) (usesL vs n).length cd) (usesL vs n) := HU.out.kept hgr4 (by
            cases hu : (Value.slice (some ⟨b, off, none⟩) (usesL vs n).length cd).ownBlock with
            | none => exact Or.inl rfl
            | some g =>
              right
              intro e
              have h5 := HUb.out g hu
              rcases hap g e.symm with h6 | h6 <;> omega)
          have HU4 := Lib.hid hU4
          have HB4 := Lib.hid (HB.out.trans hb4)
          have hz4 : w2.heap.size ≤ w4.heap.size := Nat.le_trans hz hb4.size
          clear hU4 hgr4 hb4 hown hap HU HB hlen
          go_wp2_with fail
          go_roundg gg
          case measure => omega
          case rel => exact ⟨j + 1, by omega, by go_num, by omega, hown4, hap4, HU4, HB4, hz4⟩
        · have d : (y == 2) = false := by rw [beq_eq_false_iff_ne]; exact q
          have HY := Lib.hid (innerTo_no (fun e => q (hyu.2 e)))
          clear q hyu
          go_wp2_with fail
          go_roundg gg
          case measure => omega
          case rel => exact ⟨j + 1, by omega, by go_num, by omega, by rw [HY.out]; exact hown, hap, HU, HB, hz⟩
      · obtain rfl : j = n := by omega
        go_wp2_with fail
        go_ret
        exact ⟨_, rfl, by rw [HI.out]; exact hown, HB.out⟩
set_option maxHeartbeats 1000000 in
theorem spec_PatternInner (A : Option Addr) (cap : Nat) (vs : List Vx) (w : World) (h : Verts w A vs) (hl : vs.length ≤ maxLen) :
    Calls Try.prog 26 #[.slice A vs.length cap] w fun e w' => ∃ v, e = .returned v ∧ Own w' w.heap.size v (innerL vs) ∧ Below w.heap.size w w' := by
  obtain ⟨c, hc⟩ : ∃ c, c = pcI vs := ⟨_, rfl⟩
  have hcb : -1 ≤ c ∧ c ≤ 10 := by
    rw [hc]; unfold pcI
    cases hp : patB vs with
    | false => simp
    | true =>
      have := patB_parts hp
      simp only [if_true]
      omega
  have hin : innerL vs = innerTo vs c.toNat := by
    rw [hc]; unfold innerL pcI
    cases patB vs with
    | false => rfl
    | true => rfl
  have h3 : 0 < c → vs.length ≤ 3 := by
    intro h0
    rw [hc] at h0; unfold pcI at h0
    cases hp : patB vs with
    | false => rw [hp] at h0; simp at h0
    | true => exact (patB_parts hp).2.1
  have HC := Lib.hid hc
  have HI := Lib.hid hin
  have H3 := Lib.hid h3
  clear hc hin h3
  go_enter Try.func26, Try.ntmps26
  go_wp2_with fail
  go_loopg [3, 4] (12) (fun gg s3 s4 wr => ∃ (j : Nat), (j : Int) ≤ c + 1 ∧ j ≤ 10 ∧ (j ≤ c.toNat) ∧ s4 = .int .i64 j ∧ 10 - j < gg ∧ Own wr w.heap.size s3 (innerTo vs j) ∧ Hid (Below w.heap.size w wr))
  case atStart => exact ⟨0, by omega, by omega, by omega, rfl, by omega, own_empty w (Nat.le_refl _), (Below.refl _ _).alloc (Nat.le_refl _) _⟩
  case round =>
    obtain ⟨j, hjc, hj10, hjn, rfl, hg, hown, HB⟩ := hrel
    cases gk with
    | zero => omega
    | succ gg =>
    have hz1 := HB.out.size
    have hlen := innerTo_len vs j
    go_wp2_with fail
    refine (spec_PatternCreases A cap vs wr (h.below HB.out) hl).mono ?_
    rintro e w3 ⟨rfl, hb3⟩
    rw [← HC.out]
    have hown3 : ∀ v, Own wr w.heap.size v (innerTo vs j) → Own w3 w.heap.size v (innerTo vs j) := fun v ho => ho.kept (row := none) ⟨hb3.os, hb3.tape, hb3.output, hb3.size, fun q hq _ => hb3.block q hq⟩ (by
      cases hu : v.ownBlock with
      | none => exact Or.inl rfl
      | some g => exact Or.inr (fun e => by cases e))
    have ho3 := hown3 _ hown
    have HB3 := Lib.hid (HB.out.trans (hb3.mono hz1))
    clear hown3 hown hb3
    by_cases hlt : (j : Int) < c
    · have dl : decide ((j : Int) < c) = true := by simp; omega
      have hz3 := HB3.out.size
      obtain ⟨u, hu⟩ : ∃ u, u = useN vs (j : Int) := ⟨_, rfl⟩
      have HU := Lib.hid hu
      clear hu
      have l3 := H3.out (by omega)
      go_wp2_with fail
      refine (spec_l6pUses A cap vs (j : Int) w3 (h.below HB3.out) (by omega)).mono ?_
      rintro e w' ⟨rfl, rfl⟩
      rw [← HU.out]
      by_cases q : u = 2
      · have d : ((u : Int) == 2) = true := by rw [beq_iff_eq]; omega
        have HY := Lib.hid (innerTo_yes (vs := vs) (k := j) (by rw [← HU.out]; exact q))
        clear q
        go_wp2_with (at_builtin; go_loud (refine wpList_push (W := w3) rfl _ _ rfl w.heap.size _ _ (j : Int) (by rfl) (by rfl) ho3 hz3 (by omega) ?_))
        intro v' w4 hown4 hgr4 hb4
        rw [← HY.out] at hown4
        have HB4 := Lib.hid (HB3.out.trans hb4)
        clear hgr4 hb4 ho3 hlen
        go_wp2_with fail
        go_roundg gg
        case measure => omega
        case rel => exact ⟨j + 1, by omega, by omega, by omega, by go_num, by omega, hown4, HB4⟩
      · have d : ((u : Int) == 2) = false := by rw [beq_eq_false_iff_ne]; omega
        have HY := Lib.hid (innerTo_no (vs := vs) (k := j) (by rw [← HU.out]; exact q))
        clear q
        go_wp2_with fail
        go_roundg gg
        case measure => omega
        case rel => exact ⟨j + 1, by omega, by omega, by omega, by go_num, by omega, by rw [HY.out]; exact ho3, HB3⟩
    · have dl : decide ((j : Int) < c) = false := by simp; omega
      have hjc2 : j = c.toNat := by omega
      have HJ := Lib.hid hjc2
      clear hjc2
      go_wp2_with fail
      go_ret
      exact ⟨_, rfl, by rw [HI.out, ← HJ.out]; exact ho3, HB3.out⟩
end Go.Proofs.Ytnccpifdajcejaa
namespace Go.Proofs.Ytnccpifdajcejaa

/-- how many times a number stands in the creases of vertices -/
def cntM : List Vx → Int → Nat
  | [], _ => 0
  | v :: r, z => v.2.count z + cntM r z
theorem cntM_use {vs : List Vx} (h : vs.all vtxB = true) (z : Int) : cntM vs z = useN vs z := by
  induction vs with
  | nil => rfl
  | cons v r ih =>
    rw [List.all_cons, Bool.and_eq_true] at h
    rw [cntM, useN, ih h.2]
    congr 1
    have hn : v.2.Nodup := by
      have := h.1
      unfold vtxB at this
      simp only [Bool.and_eq_true] at this
      exact ((crB_iff _).1 this.2).2
    by_cases hm : z ∈ v.2
    · rw [if_pos hm, hn.count, if_pos hm]
    · rw [if_neg hm, List.count_eq_zero.2 hm]
/-- how many angles vertices have -/
def sumA : List Vx → Nat
  | [] => 0
  | v :: r => v.1.length + sumA r
theorem sumA_snoc (vs : List Vx) (v : Vx) : sumA (vs ++ [v]) = sumA vs + v.1.length := by
  induction vs with
  | nil => simp [sumA]
  | cons u r ih => rw [List.cons_append, sumA, sumA, ih]; omega
def sumU (vs : List Vx) : Nat → Nat
  | 0 => 0
  | k + 1 => sumU vs k + useN vs (k : Int)
def cntIn (cs : List Int) : Nat → Nat
  | 0 => 0
  | k + 1 => cntIn cs k + (if (k : Int) ∈ cs then 1 else 0)
theorem cntIn_cons {c : Nat} {r : List Int} (hc : (c : Int) ∉ r) (n : Nat) : cntIn ((c : Int) :: r) n = cntIn r n + (if c < n then 1 else 0) := by
  induction n with
  | zero => simp [cntIn]
  | succ n ih =>
    rw [cntIn, cntIn, ih]
    by_cases e : n = c
    · subst e
      simp [hc]
    · have : ((n : Int) ∈ (c : Int) :: r) ↔ (n : Int) ∈ r := by
        rw [List.mem_cons]
        exact ⟨fun h => h.resolve_left (by omega), Or.inr⟩
      simp only [this]
      have e2 : (if c < n + 1 then 1 else 0) = (if c < n then 1 else (0 : Nat)) := by split <;> split <;> omega
      rw [e2]; omega
theorem cntIn_all {cs : List Int} {n : Nat} (hn : cs.Nodup) (hb : ∀ c ∈ cs, 0 ≤ c ∧ c < (n : Int)) : cntIn cs n = cs.length := by
  induction cs with
  | nil => induction n with
    | zero => rfl
    | succ n ih => rw [cntIn, ih (fun c hc => by cases hc)]; simp
  | cons c r ih =>
    obtain ⟨m, rfl⟩ : ∃ m : Nat, c = (m : Int) := ⟨c.toNat, by have := hb c (by simp); omega⟩
    rw [List.nodup_cons] at hn
    rw [cntIn_cons hn.1, ih hn.2 (fun c hc => hb c (by simp [hc])), if_pos (by have := hb (m : Int) (by simp); omega), List.length_cons]
theorem sumU_cons (v : Vx) (r : List Vx) (n : Nat) : sumU (v :: r) n = cntIn v.2 n + sumU r n := by
  induction n with
  | zero => rfl
  | succ n ih => rw [sumU, sumU, cntIn, ih, useN]; omega
theorem sumU_all {vs : List Vx} {n : Nat} (h : vs.all vtxB = true) (hb : ∀ v ∈ vs, ∀ c ∈ v.2, 0 ≤ c ∧ c < (n : Int)) : sumU vs n = sumA vs := by
  induction vs with
  | nil => induction n with
    | zero => rfl
    | succ n ih => rw [sumU, ih (fun v hv => by cases hv)]; rfl
  | cons v r ih =>
    rw [List.all_cons, Bool.and_eq_true] at h
    have h1 := h.1
    unfold vtxB at h1
    simp only [Bool.and_eq_true, decide_eq_true_eq] at h1
    rw [sumU_cons, sumA, ih h.2 (fun v hv => hb v (by simp [hv])), cntIn_all ((crB_iff _).1 h1.2).2 (hb v (by simp)), h1.1.2]
theorem sumU_inner {vs : List Vx} {n : Nat} (h : ∀ k, k < n → 1 ≤ useN vs (k : Int) ∧ useN vs (k : Int) ≤ 2) : sumU vs n = n + (innerTo vs n).length := by
  induction n with
  | zero => rfl
  | succ n ih =>
    rw [sumU, ih (fun k hk => h k (by omega))]
    have := h n (by omega)
    by_cases h2 : useN vs (n : Int) = 2
    · rw [innerTo_yes h2, List.length_append, h2]; simp; omega
    · rw [innerTo_no h2]; omega
theorem innerTo_get {vs : List Vx} {k n : Nat} (hk : k < n) (h2 : useN vs (k : Int) = 2) : (innerTo vs n)[(innerTo vs k).length]? = some (k : Int) := by
  induction n with
  | zero => omega
  | succ n ih =>
    by_cases e : k = n
    · subst e
      rw [innerTo_yes h2, List.getElem?_append_right (Nat.le_refl _), Nat.sub_self]; rfl
    · have := ih (by omega)
      have hlt := (List.getElem?_eq_some_iff.1 this).1
      by_cases h3 : useN vs (n : Int) = 2
      · rw [innerTo_yes h3, List.getElem?_append_left hlt]; exact this
      · rw [innerTo_no h3]; exact this
/-- a pattern's angles are as many as its creases and its inner ones together -/
theorem pat_sum {vs : List Vx} {n : Nat} (hp : patB vs = true) (hn : ncr vs = (n : Int)) : sumA vs = n + (innerTo vs n).length := by
  obtain ⟨_, _, hall, huse, _, _⟩ := patB_parts hp
  rw [hn, Int.toNat_natCast] at huse
  rw [← sumU_inner (fun k hk => usesOk_iff.1 huse k hk), sumU_all hall]
  intro v hv c hc
  have h1 := vtxB_bd (List.all_eq_true.1 hall v hv)
  have h2 := (ncGo_le 0 vs).2 v hv c hc
  unfold ncr at hn
  exact ⟨(h1.2.2.2.2 c hc).1, by omega⟩
theorem pat_num {vs : List Vx} (hp : patB vs = true) : ∃ n : Nat, ncr vs = (n : Int) ∧ n ≤ 10 ∧ pcI vs = (n : Int) := by
  obtain ⟨_, _, _, _, h0, h10⟩ := patB_parts hp
  exact ⟨(ncr vs).toNat, by omega, by omega, by unfold pcI; rw [hp, if_pos rfl]; omega⟩
end Go.Proofs.Ytnccpifdajcejaa
namespace Go.Proofs.Ytnccpifdajcejaa
open Go.RowKit

theorem szB_ok {xs : List Int} {left : Int} (h : 0 ≤ szB xs left) : (xs.length : Int) ≤ left ∧ szB xs left = left - xs.length := by
  unfold szB at h ⊢
  by_cases e : left - xs.length < 0
  · rw [if_pos e] at h; omega
  · rw [if_neg e]; omega
theorem szV_ok {v : Vx} {left : Int} (h : 0 ≤ szV v left) : (v.1.length : Int) ≤ left ∧ (v.2.length : Int) ≤ left ∧ szV v left ≤ left := by
  unfold szV at h ⊢
  by_cases e : szB v.1 left < 0
  · rw [if_pos e] at h; omega
  · rw [if_neg e] at h ⊢
    have h1 := szB_ok (by omega : 0 ≤ szB v.1 left)
    have h2 := szB_ok h
    omega
theorem szGo_ok {vs : List Vx} {left : Int} (h : 0 ≤ szGo vs left) : ∀ v ∈ vs, (v.1.length : Int) ≤ left ∧ (v.2.length : Int) ≤ left := by
  induction vs generalizing left with
  | nil => intro v hv; cases hv
  | cons v r ih =>
    rw [szGo] at h
    by_cases e : szV v left < 0
    · rw [if_pos e] at h; omega
    · rw [if_neg e] at h
      have h1 := szV_ok (by omega : 0 ≤ szV v left)
      intro u hu
      rcases List.mem_cons.1 hu with rfl | hu
      · exact ⟨h1.1, h1.2.1⟩
      · have := ih h u hu
        omega
theorem szL_ok {vs : List Vx} (h : 0 ≤ szL vs 1048576) : vs.length ≤ 1048576 ∧ ∀ v ∈ vs, v.1.length ≤ 1048576 ∧ v.2.length ≤ 1048576 := by
  unfold szL at h
  by_cases e : (1048576 : Int) - vs.length < 0
  · rw [if_pos e] at h; omega
  · rw [if_neg e] at h
    refine ⟨by omega, fun v hv => ?_⟩
    have := szGo_ok h v hv
    omega



end Go.Proofs.Ytnccpifdajcejaa
namespace Go.Proofs.Ytnccpifdajcejaa
open Go.RowKit

/-- PatternFirst: the rank of the first text -/
def pfo (vs : List Vx) : Option Nat := if patB vs then fstP (rankB vs (ncr vs).toNat) 0 (2 ^ (ncr vs).toNat) else none
def pfT (vs : List Vx) : ByteArray := match pfo vs with | some k => txt (ncr vs).toNat k | none => ByteArray.empty

set_option maxHeartbeats 1000000 in
theorem impl_PatternFirst (A : Option Addr) (cap : Nat) (vs : List Vx) (w : World) (h : Verts w A vs) (hl : vs.length ≤ maxLen) (hcap : vs.length ≤ cap) (hcm : cap ≤ maxLen) :
    Calls Try.prog 33 #[.slice A vs.length cap] w fun e w' => e = .returned (.tuple #[.string (pfT vs), .bool (pfo vs).isSome]) ∧ Below w.heap.size w w' := by
  cases hp : patB vs with
  | false =>
    have hc : pcI vs = -1 := by unfold pcI; rw [hp]; rfl
    have hfin : pfo vs = none := by unfold pfo; rw [hp]; rfl
    have HC := Lib.hid hc
    have HF := Lib.hid hfin
    clear hp hc hfin
    go_enter Try.func33, Try.ntmps33
    go_wp2_with fail
    refine (impl_PatternCreases A cap vs w h hl).mono ?_
    rintro e w1 ⟨rfl, hb1⟩
    rw [HC.out]
    go_wp2_with fail
    go_ret2
    exact ⟨by unfold pfT; rw [HF.out]; rfl, hb1⟩
  | true =>
    obtain ⟨n, hn, hn10, hc⟩ := pat_n hp
    obtain ⟨P, hPe⟩ : ∃ P, P = 2 ^ n := ⟨_, rfl⟩
    have hP : P ≤ 1024 := hPe ▸ pow_le_1024 hn10
    have hwr : wrap64 (2 ^ n) = (P : Int) := wrap_pow hPe hP
    have hfin : pfo vs = fstP (rankB vs n) 0 (P - 0) := by unfold pfo; rw [hp, if_pos rfl, hn, hPe]; rfl
    have hpt : pfT vs = match pfo vs with | some k => txt n k | none => ByteArray.empty := by unfold pfT; rw [hn]; rfl
    have HPT := Lib.hid hpt
    clear hpt
    have hfold : ∀ (k : Nat) (W : World), Below w.heap.size w W → Calls Try.prog 34 #[.slice A vs.length cap, .string (txt n k)] W fun e w' => e = .returned (.bool (rankB vs n k)) ∧ Below W.heap.size W w' := fun k W hW => by
      rw [← pfB_txt hp hn k]; exact impl_PatternFolds A cap vs (txt n k) W (h.below hW) hl (by rw [txt_size]; unfold maxLen; omega) hcap hcm
    have HC := Lib.hid hc
    have HF := Lib.hid hfin
    have HFold := Lib.hid hfold
    clear hp hc hfin hfold hn hPe
    go_enter Try.func33, Try.ntmps33
    go_wp2_with fail
    refine (impl_PatternCreases A cap vs w h hl).mono ?_
    rintro e w1 ⟨rfl, hb1⟩
    rw [HC.out]
    go_wp2_with fail
    go_loopg [5, 6] (P + 1) (fun g s5 s6 wr => ∃ (k : Nat), s6 = s6 ∧ k ≤ P ∧ s5 = .int .i64 k ∧ Hid (pfo vs = fstP (rankB vs n) k (P - k)) ∧ P - k < g ∧ Below w.heap.size w wr)
    case atStart => exact ⟨0, rfl, Nat.zero_le _, rfl, HF, by omega, hb1⟩
    case round =>
      obtain ⟨k, _, hk, rfl, HCn, hg, hbel⟩ := hrel
      have hsz := hbel.size
      cases gk with
      | zero => omega
      | succ g =>
      by_cases hlt : k < P
      · go_wp2_with fail
        refine (impl_foldsOfNumber n k wr (by omega) (by omega)).mono ?_
        rintro e w1 ⟨rfl, hb1⟩
        have hbel1 := hbel.trans (hb1.mono hsz)
        have hsz1 := hbel1.size
        clear hb1
        go_wp2_with fail
        refine (HFold.out k w1 hbel1).mono ?_
        rintro e w2 ⟨rfl, hb2⟩
        have hbel2 := hbel1.trans (hb2.mono hsz1)
        cases hvf : rankB vs n k with
        | true =>
          have hc1 : pfo vs = some k := by rw [HCn.out, fstP_step _ k P hlt, hvf, if_pos rfl]
          have HC1 := Lib.hid hc1
          clear hvf hc1 hb2 hbel hbel1
          go_wp2_with fail
          go_ret2
          exact ⟨by rw [HPT.out, HC1.out]; rfl, hbel2⟩
        | false =>
          have hc1 : pfo vs = fstP (rankB vs n) (k + 1) (P - (k + 1)) := by rw [HCn.out, fstP_step _ k P hlt, hvf, if_neg (by decide)]
          have HC1 := Lib.hid hc1
          clear hvf hc1 hb2 hbel hbel1
          go_wp2_with fail
          go_roundg g
          case measure => omega
          case rel => exact ⟨k + 1, by trivial, by omega, by go_num, HC1, by omega, hbel2⟩
      · obtain rfl : k = P := by omega
        have hc1 : pfo vs = none := by rw [HCn.out, Nat.sub_self]; rfl
        have HC1 := Lib.hid hc1
        clear hc1
        go_wp2_with fail
        go_ret2
        exact ⟨by unfold pfT; rw [HC1.out]; rfl, hbel⟩
set_option maxHeartbeats 1000000 in
theorem spec_PatternFirst (A : Option Addr) (cap : Nat) (vs : List Vx) (w : World) (h : Verts w A vs) (hl : vs.length ≤ maxLen) :
    Calls Try.prog 36 #[.slice A vs.length cap] w fun e w' => e = .returned (.tuple #[.string (pfT vs), .bool (pfo vs).isSome]) ∧ Below w.heap.size w w' := by
  cases hp : patB vs with
  | false =>
    have hfin : pfo vs = none := by unfold pfo; rw [hp]; rfl
    have HF := Lib.hid hfin
    have HP := Lib.hid hp
    clear hp hfin
    go_enter Try.func36, Try.ntmps36
    go_wp2_with fail
    refine (spec_PatternValid A cap vs w h hl).mono ?_
    rintro e w1 ⟨rfl, hb1⟩
    rw [HP.out]
    go_wp2_with fail
    go_ret2
    exact ⟨by unfold pfT; rw [HF.out]; rfl, hb1⟩
  | true =>
    obtain ⟨n, hn, hn10, hc⟩ := pat_n hp
    obtain ⟨h1, h3, hall, _, _, _⟩ := patB_parts hp
    have hvx : ∀ v ∈ vs, v.2.length ≤ 1000000 ∧ ∀ x ∈ v.2, 0 ≤ x ∧ x ≤ 9 := fun v hv => by
      rw [List.all_eq_true] at hall
      have := vtxB_bd (hall v hv)
      exact ⟨by omega, this.2.2.2.2⟩
    have hcr : ∀ W : World, Below w.heap.size w W → Calls Try.prog 51 #[.slice A vs.length cap] W fun e w' => e = .returned (.int .i64 (n : Int)) ∧ W = w' := fun W hW => by
      rw [← hn]; exact spec_l6pCreases A cap vs W (h.below hW) (by omega) hvx
    obtain ⟨P, hPe⟩ : ∃ P, P = 2 ^ n := ⟨_, rfl⟩
    have hP : P ≤ 1024 := hPe ▸ pow_le_1024 hn10
    have hfin : pfo vs = fstP (rankB vs n) 0 (P - 0) := by unfold pfo; rw [hp, if_pos rfl, hn, hPe]; rfl
    have hpt : pfT vs = match pfo vs with | some k => txt n k | none => ByteArray.empty := by unfold pfT; rw [hn]; rfl
    have HPT := Lib.hid hpt
    clear hpt
    have hfold : ∀ (k : Nat) (W : World), Below w.heap.size w W → Calls Try.prog 59 #[.slice A vs.length cap, .string (txt n k)] W fun e w' => e = .returned (.bool (rankB vs n k)) ∧ Below W.heap.size W w' := fun k W hW =>
      spec_l6pFolds A cap vs (txt n k) W (h.below hW) (by omega) (pat_vok hp hn k) (by rw [txt_size]; omega)
    have HP := Lib.hid hp
    have HPe := Lib.hid hPe
    have HCR := Lib.hid hcr
    have HF := Lib.hid hfin
    have HFold := Lib.hid hfold
    clear hp hc hfin hfold hn hPe hcr hvx hall h1 h3
    go_enter Try.func36, Try.ntmps36
    go_wp2_with fail
    refine (spec_PatternValid A cap vs w h hl).mono ?_
    rintro e w1 ⟨rfl, hb1⟩
    rw [HP.out]
    go_wp2_with fail
    refine (HCR.out w1 hb1).mono ?_
    rintro e w' ⟨rfl, rfl⟩
    go_wp2_with fail
    go_loopg [5] (P + 1) (fun g s5 wr => ∃ (k : Nat), k ≤ P ∧ s5 = .int .i64 k ∧ Hid (pfo vs = fstP (rankB vs n) k (P - k)) ∧ P - k < g ∧ Below w.heap.size w wr)
    case atStart => exact ⟨0, Nat.zero_le _, rfl, HF, by omega, hb1⟩
    case round =>
      obtain ⟨k, hk, rfl, HCn, hg, hbel⟩ := hrel
      have hsz := hbel.size
      cases gk with
      | zero => omega
      | succ g =>
      go_wp2_with fail
      refine (spec_l1Power n wr (by omega)).mono ?_
      rintro e w1 ⟨rfl, rfl⟩
      rw [← HPe.out]
      by_cases hlt : k < P
      · go_wp2_with fail
        refine (spec_l1Text n k wr (by omega) (by omega)).mono ?_
        rintro e w1 ⟨rfl, rfl⟩
        go_wp2_with fail
        refine (HFold.out k wr hbel).mono ?_
        rintro e w2 ⟨rfl, hb2⟩
        have hbel2 := hbel.trans (hb2.mono hsz)
        cases hvf : rankB vs n k with
        | true =>
          have hc1 : pfo vs = some k := by rw [HCn.out, fstP_step _ k P hlt, hvf, if_pos rfl]
          have HC1 := Lib.hid hc1
          clear hvf hc1 hb2 hbel
          go_wp2_with fail
          refine (spec_l1Text n k w2 (by omega) (by omega)).mono ?_
          rintro e w1 ⟨rfl, rfl⟩
          go_wp2_with fail
          go_ret2
          exact ⟨by rw [HPT.out, HC1.out]; rfl, hbel2⟩
        | false =>
          have hc1 : pfo vs = fstP (rankB vs n) (k + 1) (P - (k + 1)) := by rw [HCn.out, fstP_step _ k P hlt, hvf, if_neg (by decide)]
          have HC1 := Lib.hid hc1
          clear hvf hc1 hb2 hbel
          go_wp2_with fail
          go_roundg g
          case measure => omega
          case rel => exact ⟨k + 1, by omega, by go_num, HC1, by omega, hbel2⟩
      · obtain rfl : k = P := by omega
        have hc1 : pfo vs = none := by rw [HCn.out, Nat.sub_self]; rfl
        have HC1 := Lib.hid hc1
        clear hc1
        go_wp2_with fail
        go_ret2
        exact ⟨by unfold pfT; rw [HC1.out]; rfl, hbel⟩
end Go.Proofs.Ytnccpifdajcejaa
