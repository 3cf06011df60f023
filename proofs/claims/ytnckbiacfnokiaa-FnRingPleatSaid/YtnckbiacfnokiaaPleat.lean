/- A pleat in a ring changes nothing. No program, no condition. -/
import Derived.Test.YtnckbiacfnokiaaConfC
namespace Go.Proofs.Ytnckbiacfnokiaa

theorem pleat_step {xs : List Int} {cs : List UInt8} {k : Nat} {p q : UInt8} (hl : xs.length = cs.length) (hk : k < xs.length) (h2 : 2 ≤ xs.length) (hx : ∀ x ∈ xs, 1 ≤ x) (hpq : p.toNat ≠ q.toNat) :
    Step (wl (xs.take (k + 1) ++ [1, 1] ++ xs.drop (k + 1)) (cs.take (k + 1) ++ [p, q] ++ cs.drop (k + 1))) (wl xs cs) := by
  have hkc : k < cs.length := by omega
  have e1 : xs.take (k + 1) = xs.take k ++ [xs[k]] := by rw [List.take_succ_eq_append_getElem hk]
  have e2 : cs.take (k + 1) = cs.take k ++ [cs[k]] := by rw [List.take_succ_eq_append_getElem hkc]
  have e3 : xs = xs.take k ++ [xs[k]] ++ xs.drop (k + 1) := by rw [← e1, List.take_append_drop]
  have e4 : cs = cs.take k ++ [cs[k]] ++ cs.drop (k + 1) := by rw [← e2, List.take_append_drop]
  obtain ⟨u, hu⟩ : ∃ u, u = xs.take k := ⟨_, rfl⟩
  obtain ⟨cu, hcu⟩ : ∃ u, u = cs.take k := ⟨_, rfl⟩
  obtain ⟨v, hv⟩ : ∃ u, u = xs.drop (k + 1) := ⟨_, rfl⟩
  obtain ⟨cv, hcv⟩ : ∃ u, u = cs.drop (k + 1) := ⟨_, rfl⟩
  obtain ⟨a, ha⟩ : ∃ u, u = xs[k] := ⟨_, rfl⟩
  obtain ⟨c, hc⟩ : ∃ u, u = cs[k] := ⟨_, rfl⟩
  have l1 : u.length = cu.length := by rw [hu, hcu, List.length_take, List.length_take]; omega
  have l2 : v.length = cv.length := by rw [hv, hcv, List.length_drop, List.length_drop]; omega
  have l3 : u.length + v.length + 1 = xs.length := by rw [hu, hv, List.length_take, List.length_drop]; omega
  rw [e1, e2, ← hu, ← hcu, ← hv, ← hcv, ← ha, ← hc]
  rw [← hu, ← hv, ← ha] at e3
  rw [← hcu, ← hcv, ← hc] at e4
  rw [e3] at hx
  rw [e3, e4]
  have w1 : wl (u ++ [a] ++ [1, 1] ++ v) (cu ++ [c] ++ [p, q] ++ cv) = (wl u cu ++ [.F c.toNat]) ++ (.X a :: .F p.toNat :: .X 1 :: .F q.toNat :: .X 1 :: wl v cv) := by
    rw [wl_app (by simp [l1]), wl_app (by simp [l1]), wl_app l1]
    simp [wl]
  have w2 : wl (u ++ [a] ++ v) (cu ++ [c] ++ cv) = (wl u cu ++ [.F c.toNat]) ++ (.X a :: wl v cv) := by
    rw [wl_app (by simp [l1]), wl_app l1]
    simp [wl]
  rw [w1, w2]
  refine step_mk (a := a) (b := 1) (c := 1) (g := p.toNat) (h := q.toNat) (rest := wl v cv ++ (wl u cu ++ [.F c.toNat])) ?_ ?_ hpq ?_ ?_
  · exact rot_mk _ _
  · rw [show a + 1 - 1 = a from by omega]
    exact rot_mk (.X a :: wl v cv) (wl u cu ++ [.F c.toNat])
  · intro x hm
    have hw : ∀ (ys : List Int) (es : List UInt8), Ltr.X x ∈ wl ys es → x ∈ ys := by
      intro ys
      induction ys with
      | nil => intro es h; cases es <;> simp [wl] at h
      | cons y ys ih =>
        intro es h
        cases es with
        | nil => simp [wl] at h
        | cons e es =>
          simp only [wl, List.mem_cons, reduceCtorEq, false_or, Ltr.X.injEq] at h
          rcases h with h | h
          · exact List.mem_cons.2 (Or.inl h)
          · exact List.mem_cons.2 (Or.inr (ih es h))
    simp only [List.mem_append, List.mem_cons, List.not_mem_nil, or_false, reduceCtorEq, false_or, Ltr.X.injEq] at hm
    rcases hm with h | h | h | h | h
    · exact hx x (by simp [hw _ _ h])
    · exact hx x (by simp [h])
    · omega
    · omega
    · exact hx x (by simp [hw _ _ h])
  · have hlw : ∀ (ys : List Int) (es : List UInt8), ys.length = es.length → (wl ys es).length = 2 * ys.length := by
      intro ys
      induction ys with
      | nil => intro es h; cases es with
        | nil => rfl
        | cons _ _ => simp at h
      | cons y ys ih =>
        intro es h
        cases es with
        | nil => simp at h
        | cons e es =>
          have := ih es (by simpa using h)
          simp [wl]; omega
    rw [List.length_append, List.length_append, hlw _ _ l1, hlw _ _ l2]
    simp
    omega
theorem pleat_rvB {xs : List Int} {cs : List UInt8} {k : Nat} {p q : UInt8} (hr : rvB xs cs = true) (hk : k < xs.length) (h4 : xs.length ≤ 4) (hp : mvB p = true) (hq : mvB q = true) :
    rvB (xs.take (k + 1) ++ [1, 1] ++ xs.drop (k + 1)) (cs.take (k + 1) ++ [p, q] ++ cs.drop (k + 1)) = true := by
  unfold rvB at hr ⊢
  simp only [Bool.and_eq_true, decide_eq_true_eq] at hr ⊢
  obtain ⟨⟨⟨h1, h2⟩, h3⟩, h5⟩ := hr
  obtain ⟨l1, l6, hx⟩ := lvB_parts h1
  have hfv := (fvB_iff _ _).1 h3
  have hlen : (xs.take (k + 1) ++ [1, 1] ++ xs.drop (k + 1)).length = xs.length + 2 := by
    simp; omega
  have hcl : cs.length = xs.length := by have := hfv.1; omega
  have hcn : (cs.take (k + 1) ++ [p, q] ++ cs.drop (k + 1)).length = xs.length + 2 := by
    simp; omega
  refine ⟨⟨⟨?_, by rw [hlen]; omega⟩, ?_⟩, ?_⟩
  · unfold lvB
    simp only [Bool.and_eq_true, decide_eq_true_eq, List.all_eq_true]
    refine ⟨⟨by rw [hlen]; omega, by rw [hlen]; omega⟩, fun x hm => ?_⟩
    simp only [List.mem_append, List.mem_cons, List.not_mem_nil, or_false] at hm
    rcases hm with (h | h | h) | h
    · exact hx x (List.mem_of_mem_take h)
    · omega
    · omega
    · exact hx x (List.mem_of_mem_drop h)
  · refine (fvB_iff _ _).2 ⟨by rw [hcn, hlen], fun c hm => ?_⟩
    simp only [List.mem_append, List.mem_cons, List.not_mem_nil, or_false] at hm
    rcases hm with (h | h | h) | h
    · exact hfv.2 c (List.mem_of_mem_take h)
    · rw [h]; exact hp
    · rw [h]; exact hq
    · exact hfv.2 c (List.mem_of_mem_drop h)
  · rw [balB_alt, decide_eq_true_eq] at h5 ⊢
    have e3 : xs = xs.take (k + 1) ++ xs.drop (k + 1) := (List.take_append_drop _ _).symm
    have h6 : altS (xs.take (k + 1) ++ xs.drop (k + 1)) = 0 := by rw [← e3]; exact h5
    rw [altS_app] at h6
    rw [List.append_assoc, altS_app]
    have e : altS ([1, 1] ++ xs.drop (k + 1)) = altS (xs.drop (k + 1)) := by simp [altS]; omega
    rw [e]
    exact h6
theorem pleat_rfB {xs : List Int} {s s' : ByteArray} {k : Nat} {p q : UInt8} (hr : rvB xs s.data.toList = true) (hk : k < xs.length) (h4 : xs.length ≤ 4) (hpq : p.toNat ≠ q.toNat) (hp : mvB p = true) (hq : mvB q = true)
    (hs' : s'.data.toList = s.data.toList.take (k + 1) ++ [p, q] ++ s.data.toList.drop (k + 1)) : rfB (xs.take (k + 1) ++ [1, 1] ++ xs.drop (k + 1)) s' = rfB xs s := by
  have hr' := pleat_rvB hr hk h4 hp hq
  have hrr := hr
  unfold rvB at hrr
  simp only [Bool.and_eq_true, decide_eq_true_eq] at hrr
  obtain ⟨⟨⟨h1, h2⟩, h3⟩, h5⟩ := hrr
  obtain ⟨l1, l6, hx⟩ := lvB_parts h1
  have hfv := (fvB_iff _ _).1 h3
  have hl : xs.length = s.data.toList.length := by have := hfv.1; omega
  have hst := pleat_step (k := k) (p := p) (q := q) hl hk (by omega) (fun x h => (hx x h).1) hpq
  rw [← hs'] at hst hr'
  have hbin : Bin (wl (xs.take (k + 1) ++ [1, 1] ++ xs.drop (k + 1)) s'.data.toList) := by
    apply wl_bin
    unfold rvB at hr'
    simp only [Bool.and_eq_true, decide_eq_true_eq] at hr'
    exact ((fvB_iff _ _).1 hr'.1.2).2
  have hlen4 : (wl (xs.take (k + 1) ++ [1, 1] ++ xs.drop (k + 1)) s'.data.toList).length % 4 = 0 := by
    have h7 := hst.len
    have h8 : (wl xs s.data.toList).length = 2 * xs.length := by
      rw [← seg_word (by rw [hl, size_list]), seg_len]
    omega
  have key := down_iff hst hlen4 hbin
  rw [Bool.eq_iff_iff, rfB_down, rfB_down]
  constructor
  · rintro ⟨_, h⟩; exact ⟨hr, key.1 h⟩
  · rintro ⟨_, h⟩; exact ⟨hr', key.2 h⟩
end Go.Proofs.Ytnckbiacfnokiaa
