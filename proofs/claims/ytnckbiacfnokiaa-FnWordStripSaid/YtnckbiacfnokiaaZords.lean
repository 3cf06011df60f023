/- Words of folds as texts: all words of so many folds, sorted, ranked. No program, no condition. -/
import Derived.Test.YtnckbiacfnokiaaZordA
namespace Go.Proofs.Ytnckbiacfnokiaa

/-- the other side of a text -/
def othL (l : List UInt8) : List UInt8 := (l.reverse).map swB
/-- the words of n folds, as the program makes them and as the reference does -/
def wlI : Nat → List (List UInt8)
  | 0 => [[]]
  | n + 1 => (wlI n).flatMap fun w => [w ++ 86 :: othL w, w ++ 77 :: othL w]
def wlS : Nat → List (List UInt8)
  | 0 => [[]]
  | n + 1 => (wlS n).flatMap fun w => [w ++ 77 :: othL w, w ++ 86 :: othL w]
theorem flat2_swap (f g : List UInt8 → List UInt8) (l : List (List UInt8)) : (l.flatMap fun w => [f w, g w]).Perm (l.flatMap fun w => [g w, f w]) := by
  induction l with
  | nil => exact List.Perm.refl _
  | cons z l ih => rw [List.flatMap_cons, List.flatMap_cons]; exact (List.Perm.swap _ _ _).append ih
theorem flat2_perm (f g : List UInt8 → List UInt8) {a b : List (List UInt8)} (h : a.Perm b) : (a.flatMap fun w => [f w, g w]).Perm (b.flatMap fun w => [g w, f w]) := by
  refine List.Perm.trans ?_ (flat2_swap f g b)
  induction h with
  | nil => exact List.Perm.refl _
  | cons x _ ih =>
    rw [List.flatMap_cons, List.flatMap_cons]
    exact (List.Perm.refl _).append ih
  | swap x y l =>
    simp only [List.flatMap_cons]
    rw [← List.append_assoc, ← List.append_assoc]
    exact List.perm_append_comm.append (List.Perm.refl _)
  | trans _ _ ih1 ih2 => exact ih1.trans ih2
theorem wl_perm (n : Nat) : (wlI n).Perm (wlS n) := by
  induction n with
  | zero => exact List.Perm.refl _
  | succ n ih => exact flat2_perm _ _ ih
theorem wlI_len (n : Nat) : (wlI n).length = 2 ^ n := by
  induction n with
  | zero => rfl
  | succ n ih =>
    have : ∀ l : List (List UInt8), (l.flatMap fun w => [w ++ 86 :: othL w, w ++ 77 :: othL w]).length = 2 * l.length := by
      intro l
      induction l with
      | nil => rfl
      | cons x l ih => rw [List.flatMap_cons, List.length_append, ih]; simp; omega
    rw [wlI, this, ih, Nat.pow_succ]; omega
theorem wlS_len (n : Nat) : (wlS n).length = 2 ^ n := by rw [← (wl_perm n).length_eq, wlI_len]
theorem othL_len (l : List UInt8) : (othL l).length = l.length := by simp [othL]
theorem wlI_size {n : Nat} {w : List UInt8} (h : w ∈ wlI n) : w.length + 1 = 2 ^ n := by
  induction n generalizing w with
  | zero => simp [wlI] at h; subst h; rfl
  | succ n ih =>
    rw [wlI, List.mem_flatMap] at h
    obtain ⟨v, hv, hw⟩ := h
    have := ih hv
    simp only [List.mem_cons, List.not_mem_nil, or_false] at hw
    rw [Nat.pow_succ]
    rcases hw with rfl | rfl <;> simp [othL_len] <;> omega
theorem wlI_nodup (n : Nat) : (wlI n).Nodup := by
  induction n with
  | zero => simp [wlI]
  | succ n ih =>
    have key : ∀ l : List (List UInt8), l.Nodup → (∀ w ∈ l, w.length + 1 = 2 ^ n) → (l.flatMap fun w => [w ++ 86 :: othL w, w ++ 77 :: othL w]).Nodup := by
      intro l
      induction l with
      | nil => intro _ _; exact List.nodup_nil
      | cons x l ih2 =>
        intro hn hs
        rw [List.nodup_cons] at hn
        rw [List.flatMap_cons, List.nodup_append]
        have hx := hs x (by simp)
        refine ⟨?_, ih2 hn.2 fun w hw => hs w (by simp [hw]), ?_⟩
        · simp
        · intro a ha b hb
          obtain ⟨v, hv, hw⟩ := List.mem_flatMap.1 hb
          have hvl := hs v (by simp [hv])
          have hne : x ≠ v := fun e => hn.1 (e ▸ hv)
          have hl : x.length = v.length := by omega
          simp only [List.mem_cons, List.not_mem_nil, or_false] at ha hw
          rintro rfl
          apply hne
          have tk : ∀ (u : List UInt8) (c : UInt8) (r : List UInt8), (u ++ c :: r).take u.length = u := fun u c r => by simp
          rcases ha with e1 | e1 <;> rcases hw with e2 | e2
          all_goals
            have t1 := congrArg (List.take x.length) e1
            have t2 := congrArg (List.take v.length) e2
            rw [tk] at t1 t2
            rw [← t1, ← t2, hl]
    exact key _ ih fun w hw => wlI_size hw
/-- texts sorted -/
def srt (l : List (List UInt8)) : List (List UInt8) := l.mergeSort fun x y => decide (x ≤ y)
theorem srt_perm (l : List (List UInt8)) : (srt l).Perm l := List.mergeSort_perm _ _
theorem srt_sorted (l : List (List UInt8)) : (srt l).Pairwise (· ≤ ·) := by
  have := List.pairwise_mergeSort (le := fun x y : List UInt8 => decide (x ≤ y)) (fun a b c h1 h2 => by
    simp only [decide_eq_true_eq] at *
    exact List.le_trans h1 h2) (fun a b => by
    simp only [Bool.or_eq_true, decide_eq_true_eq]
    exact List.le_total a b) l
  exact this.imp fun h => by simpa using h
/-- how many texts are less -/
def cntLt (l : List (List UInt8)) (x : List UInt8) : Nat := l.countP fun y => decide (y < x)
theorem cntLt_perm {l l' : List (List UInt8)} (h : l.Perm l') (x : List UInt8) : cntLt l x = cntLt l' x := h.countP_eq _
theorem srt_lt {l : List (List UInt8)} (hn : l.Nodup) : (srt l).Pairwise (· < ·) := by
  have h1 := srt_sorted l
  have h2 : (srt l).Nodup := (srt_perm l).nodup_iff.2 hn
  rw [List.nodup_iff_pairwise_ne] at h2
  refine (h1.and h2).imp fun {a b} h => ?_
  apply Classical.byContradiction
  intro h3
  exact h.2 (List.le_antisymm h.1 (List.not_lt.1 h3))
/-- a strictly sorted list: as many are less as lie ahead -/
theorem cntLt_at {l : List (List UInt8)} (h : l.Pairwise (· < ·)) {r : Nat} (hr : r < l.length) : cntLt l l[r] = r := by
  induction l generalizing r with
  | nil => simp at hr
  | cons x l ih =>
    rw [List.pairwise_cons] at h
    unfold cntLt
    cases r with
    | zero =>
      rw [List.getElem_cons_zero, List.countP_eq_zero]
      intro y hy
      simp only [decide_eq_true_eq]
      rcases List.mem_cons.1 hy with rfl | hy
      · exact List.lt_irrefl _
      · exact fun h2 => List.lt_irrefl x (List.lt_trans (h.1 y hy) h2)
    | succ r =>
      have hr2 : r < l.length := by simpa using hr
      rw [List.getElem_cons_succ, List.countP_cons_of_pos (by simpa using h.1 _ (List.getElem_mem hr2))]
      have := ih h.2 hr2
      unfold cntLt at this
      rw [this]
/-- the word of a rank -/
def wNth (n r : Nat) : Option (List UInt8) := (srt (wlI n))[r]?
theorem srt_len (n : Nat) : (srt (wlI n)).length = 2 ^ n := by rw [(srt_perm _).length_eq, wlI_len]
theorem rank_at {n r : Nat} {x : List UInt8} (h : wNth n r = some x) : x ∈ wlS n ∧ cntLt (wlS n) x = r := by
  unfold wNth at h
  obtain ⟨hr, hx⟩ := List.getElem?_eq_some_iff.1 h
  have hp := (srt_perm (wlI n)).trans (wl_perm n)
  refine ⟨hp.mem_iff.1 (hx ▸ List.getElem_mem hr), ?_⟩
  rw [← cntLt_perm hp, ← hx]
  exact cntLt_at (srt_lt (wlI_nodup n)) hr
theorem rank_of {n : Nat} {x : List UInt8} (h : x ∈ wlS n) : wNth n (cntLt (wlS n) x) = some x := by
  have hp := (srt_perm (wlI n)).trans (wl_perm n)
  obtain ⟨r, hr, hx⟩ := List.getElem_of_mem (hp.mem_iff.2 h)
  have := cntLt_at (srt_lt (wlI_nodup n)) hr
  rw [hx, cntLt_perm hp] at this
  rw [this]
  unfold wNth
  rw [List.getElem?_eq_getElem hr, hx]
/-- the first of a list that has a rank is the word of this rank -/
def findR (L : List (List UInt8)) (n : Nat) (z : Int) : Option (List UInt8) := L.find? fun x => decide ((cntLt (wlS n) x : Int) = z)
theorem findR_nth (n : Nat) (z : Int) : findR (wlS n) n z = if 0 ≤ z then wNth n z.toNat else none := by
  unfold findR
  cases hf : (wlS n).find? fun x => decide ((cntLt (wlS n) x : Int) = z) with
  | some x =>
    have h1 := List.find?_some hf
    have h2 := List.mem_of_find?_eq_some hf
    simp only [decide_eq_true_eq] at h1
    have h3 := rank_of h2
    rw [if_pos (by omega), ← h3]
    congr 1; omega
  | none =>
    rw [List.find?_eq_none] at hf
    split
    · cases hw : wNth n z.toNat with
      | none => rfl
      | some x =>
        exfalso
        obtain ⟨h1, h2⟩ := rank_at hw
        have := hf x h1
        simp only [decide_eq_true_eq] at this
        omega
    · rfl
end Go.Proofs.Ytnckbiacfnokiaa
