/- A region that draws its order, by an invariant over what has come up. No program, no condition. -/
import Derived.Deep.RegionHeld3
namespace Go.Proofs.Ytfhogdbhfbnocaa

theorem ready_set_lt {ops : Array Oper} {l : Array Bool} {i : Nat} (hi : i < ops.size) (h0 : l.getD i true = false) :
    (List.range ops.size).countP (fun k => !(l.setIfInBounds i true).getD k true) < (List.range ops.size).countP (fun k => !l.getD k true) := by
  have key : ∀ L : List Nat, (L.countP (fun k => !(l.setIfInBounds i true).getD k true) ≤ L.countP (fun k => !l.getD k true)) ∧ (i ∈ L → L.countP (fun k => !(l.setIfInBounds i true).getD k true) < L.countP (fun k => !l.getD k true)) := by
    intro L
    induction L with
    | nil => exact ⟨Nat.le_refl _, fun h => by cases h⟩
    | cons k r ih =>
      have hk : (!(l.setIfInBounds i true).getD k true) = true → (!l.getD k true) = true ∧ k ≠ i := by
        intro h
        by_cases e : i = k
        · subst e
          exfalso
          rcases Nat.lt_or_ge i l.size with hl | hl
          · simp [hl] at h
          · simp [hl] at h
        · rw [getD_set_ne true e] at h
          exact ⟨h, fun q => e q.symm⟩
      rw [List.countP_cons, List.countP_cons]
      constructor
      · have := ih.1
        by_cases h : (!(l.setIfInBounds i true).getD k true) = true
        · rw [if_pos h, if_pos (hk h).1]; omega
        · rw [if_neg h]; omega
      · intro hm
        rcases List.mem_cons.1 hm with e | hm
        · have h1 : ¬ (!(l.setIfInBounds i true).getD k true) = true := fun h => (hk h).2 e.symm
          have h2 : (!l.getD k true) = true := by rw [← e, h0]; rfl
          rw [if_neg h1, if_pos h2]
          have := ih.1
          omega
        · have := ih.2 hm
          by_cases h : (!(l.setIfInBounds i true).getD k true) = true
          · rw [if_pos h, if_pos (hk h).1]; omega
          · rw [if_neg h]; omega
  exact (key _).2 (List.mem_range.2 hi)
/-- a fact of each operation -/
def AllOps (F : Nat → Oper → Prop) : Nat → List Oper → Prop
  | _, [] => True
  | n, o :: r => F n o ∧ AllOps F (n + 1) r
theorem AllOps.cons {F : Nat → Oper → Prop} {n : Nat} {o : Oper} {r : List Oper} (h : F n o) (hr : AllOps F (n + 1) r) : AllOps F n (o :: r) := ⟨h, hr⟩
theorem AllOps.nil {F : Nat → Oper → Prop} {n : Nat} : AllOps F n [] := trivial
theorem AllOps.at_ {F : Nat → Oper → Prop} {l : List Oper} {n i : Nat} {o : Oper} (h : AllOps F n l) (ho : l[i]? = some o) : F (n + i) o := by
  induction l generalizing n i with
  | nil => simp at ho
  | cons x r ih =>
    cases i with
    | zero => simp at ho; subst ho; exact h.1
    | succ i =>
      have := ih h.2 (by simpa using ho)
      rw [show n + (i + 1) = n + 1 + i from by omega]; exact this
/-- what an operation needs of those ahead of it -/
def Deps (o : Oper) (L : Nat → Bool) : Prop := ∀ e ∈ o.after, Region.binds .any e = true → L e.on = true
theorem wp_region_inv {P : Program} {ops : Array Oper} {Q : Exit → Act → World → Prop} {id : Nat} {a : Act} {w : World} (hm : P.follows .mixedOrders = true)
    (hac : AllOps (fun i o => ∀ e ∈ o.after, Region.binds .any e = true → e.on < i) 0 ops.toList) (J : (Nat → Bool) → Act → World → Prop) (h0 : J (fun k => decide (ops.size ≤ k)) a w.drew)
    (hs : AllOps (fun i o => ∀ L b v, J L b v → L i = false → Deps o L → ∀ K : Act → World → Prop, Shut (∀ b' v', J (fun k => k == i || L k) b' v' → K b' v') →
      if Region.wanted o (yielded ops b.tmps) = true then Oper.wp P o b v K Q else K (b.put o.dst undef) v) 0 ops.toList)
    (he : ∀ L b v, J L b v → (∀ i, i < ops.size → L i = true) → Q .normal b v) : (Code.region id ops true).wp P Q a w := by
  refine wp_region_held_drew (S := fun _ => True) hm trivial (fun _ => ?_)
  have nxt : ∀ (l : Array Bool) (i : Nat), l.size = ops.size → i < ops.size → (fun k => (l.setIfInBounds i true).getD k true) = (fun k => k == i || l.getD k true) := by
    intro l i hl hi
    funext k
    by_cases e : i = k
    · subst e
      simp [hl, hi]
    · rw [getD_set_ne true e]
      have : (k == i) = false := by rw [beq_eq_false_iff_ne]; exact fun q => e q.symm
      rw [this, Bool.false_or]
  have done : ∀ (l : Array Bool), Region.ready .any ops l = [] → ∀ i, i < ops.size → l.getD i true = true := by
    intro l hr i
    induction i using Nat.strongRecOn with
    | ind i ih =>
      intro hi
      cases h : l.getD i true with
      | true => rfl
      | false =>
        exfalso
        have ho : ops[i]? = some ops[i] := Array.getElem?_eq_getElem hi
        have hin : i ∈ Region.ready .any ops l := by
          refine mem_ready.2 ⟨h, _, ho, fun e he hb => ?_⟩
          have hlt := hac.at_ (n := 0) (i := i) (o := ops[i]) (by simp [hi]) e he hb
          have := ih e.on (by omega) (by omega)
          rcases Nat.lt_or_ge e.on l.size with hz | hz
          · simpa [hz] using this
          · exfalso
            have hiz : l.getD i true = true := by simp [Array.getElem?_eq_none (show l.size ≤ i by omega)]
            rw [hiz] at h; cases h
        rw [hr] at hin
        cases hin
  have key : ∀ (fuel : Nat) (l : Array Bool) (b : Act) (v : World), l.size = ops.size → (List.range ops.size).countP (fun k => !l.getD k true) ≤ fuel → J (fun k => l.getD k true) b v → wpAnyH P .any ops Q (fun _ => True) fuel l b v := by
    intro fuel
    induction fuel with
    | zero =>
      intro l b v hl hc hJ
      have hall : ∀ i, i < ops.size → l.getD i true = true := by
        intro i hi
        have h0 : (List.range ops.size).countP (fun k => !l.getD k true) = 0 := by omega
        rw [List.countP_eq_zero] at h0
        have := h0 i (List.mem_range.2 hi)
        simpa using this
      refine ⟨?_, he _ b v hJ hall⟩
      apply List.eq_nil_iff_forall_not_mem.2
      intro i hi
      obtain ⟨h1, o, ho, _⟩ := mem_ready.1 hi
      have hlt : i < ops.size := (Array.getElem?_eq_some_iff.1 ho).1
      rw [hall i hlt] at h1
      cases h1
    | succ fuel ih =>
      intro l b v hl hc hJ
      refine ⟨fun hr => he _ b v hJ (done l hr), fun i hi => ?_⟩
      obtain ⟨h1, o, ho, hd⟩ := mem_ready.1 hi
      have hlt : i < ops.size := (Array.getElem?_eq_some_iff.1 ho).1
      refine wpOp_step ho (fun K hK => ?_)
      have hs1 := hs.at_ (n := 0) (i := i) (o := o) (by simpa using ho)
      rw [Nat.zero_add] at hs1
      refine hs1 _ b v hJ h1 (fun e he hb => ?_) K (fun b' v' hJ' => hK b' v' ⟨trivial, ih _ b' v' (by simpa using hl) ?_ ?_⟩)
      · have := hd e he hb
        rcases Nat.lt_or_ge e.on l.size with hz | hz
        · simpa [hz] using this
        · simp [Array.getElem?_eq_none hz] at this
      · have := ready_set_lt (l := l) hlt h1
        omega
      · rw [nxt l i hl hlt]; exact hJ'
  refine key ops.size _ a w.drew (by simp) ?_ ?_
  · refine Nat.le_trans List.countP_le_length ?_
    rw [List.length_range]; exact Nat.le_refl _
  · have e : (fun k => (Array.replicate ops.size false).getD k true) = fun k => decide (ops.size ≤ k) := by
      funext k
      by_cases h : k < ops.size
      · have h2 : ¬ ops.size ≤ k := by omega
        simp [h, h2]
      · have h2 : ops.size ≤ k := by omega
        simp [h, h2]
    rw [e]; exact h0
end Go.Proofs.Ytfhogdbhfbnocaa
