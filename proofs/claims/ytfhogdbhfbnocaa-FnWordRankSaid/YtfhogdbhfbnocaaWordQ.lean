/- Words with all letters exchanged: they stand opposite. No program, no condition. -/
import Derived.Test.YtfhogdbhfbnocaaWordP
namespace Go.Proofs.Ytfhogdbhfbnocaa

def swL' (l : List UInt8) : List UInt8 := l.map swB
theorem swL'_oth (l : List UInt8) : swL' (othL l) = othL (swL' l) := by
  unfold swL' othL
  rw [List.map_map, ← List.map_reverse, List.map_map]
theorem swL'_swL' (l : List UInt8) : swL' (swL' l) = l := by
  unfold swL'
  rw [List.map_map]
  have : (swB ∘ swB) = id := funext swB_swB
  rw [this, List.map_id]
theorem swap_mem {n : Nat} {l : List UInt8} (h : l ∈ wlI n) : swL' l ∈ wlI n := by
  induction n generalizing l with
  | zero => simp [wlI] at h; subst h; simp [swL', wlI]
  | succ n ih =>
    obtain ⟨w, hw, e⟩ := mem_wlI_succ.1 h
    have h1 := ih hw
    have key : ∀ c : UInt8, swL' (w ++ c :: othL w) = swL' w ++ swB c :: othL (swL' w) := by
      intro c
      rw [← swL'_oth]
      unfold swL'
      rw [List.map_append, List.map_cons]
    rcases e with rfl | rfl
    · refine mem_wlI_succ.2 ⟨swL' w, h1, Or.inr ?_⟩
      rw [key]
      have : swB 86 = 77 := by decide
      rw [this]
    · refine mem_wlI_succ.2 ⟨swL' w, h1, Or.inl ?_⟩
      rw [key]
      have : swB 77 = 86 := by decide
      rw [this]
theorem swB_lt {a b : UInt8} (ha : mvB a = true) (hb : mvB b = true) (h : a < b) : swB b < swB a := by
  rcases mvB_is ha with rfl | rfl <;> rcases mvB_is hb with rfl | rfl
  · exact absurd h (by decide)
  · decide
  · exact absurd h (by decide)
  · exact absurd h (by decide)
theorem swap_lt {a b : List UInt8} (hl : a.length = b.length) (ha : a.all mvB = true) (hb : b.all mvB = true) (h : a < b) : swL' b < swL' a := by
  induction a generalizing b with
  | nil =>
    cases b with
    | nil => exact absurd h (List.lt_irrefl _)
    | cons y r => simp at hl
  | cons x r ih =>
    cases b with
    | nil => simp at hl
    | cons y s =>
      rw [List.all_cons, Bool.and_eq_true] at ha hb
      show swB y :: swL' s < swB x :: swL' r
      rw [List.cons_lt_cons_iff] at h ⊢
      rcases h with h | ⟨h1, h2⟩
      · exact Or.inl (swB_lt ha.1 hb.1 h)
      · exact Or.inr ⟨by rw [h1], ih (by simpa using hl) ha.2 hb.2 h2⟩
theorem swap_lt_iff {n : Nat} {a b : List UInt8} (ha : a ∈ wlI n) (hb : b ∈ wlI n) : swL' b < swL' a ↔ a < b := by
  have hl : a.length = b.length := by have := wlI_size ha; have := wlI_size hb; omega
  constructor
  · intro h
    have ha' := swap_mem ha
    have hb' := swap_mem hb
    have := swap_lt (by unfold swL'; rw [List.length_map, List.length_map, hl]) (mem_wv hb').1 (mem_wv ha').1 h
    rwa [swL'_swL', swL'_swL'] at this
  · exact swap_lt hl (mem_wv ha).1 (mem_wv hb).1
theorem cnt_tri (x : List UInt8) (L : List (List UInt8)) : L.countP (fun y => decide (y < x)) + L.countP (fun y => decide (y = x)) + L.countP (fun y => decide (x < y)) = L.length := by
  induction L with
  | nil => rfl
  | cons y r ih =>
    rw [List.length_cons, ← ih]
    simp only [List.countP_cons, decide_eq_true_eq]
    have tri : y < x ∨ y = x ∨ x < y := by
      rcases Classical.em (y < x) with h | h
      · exact Or.inl h
      · rcases Classical.em (x < y) with h' | h'
        · exact Or.inr (Or.inr h')
        · exact Or.inr (Or.inl (List.le_antisymm (List.not_lt.1 h') (List.not_lt.1 h)))
    rcases tri with h | h | h
    · have h2 : ¬ y = x := fun e => List.lt_irrefl x (e ▸ h)
      have h3 : ¬ x < y := fun e => List.lt_irrefl x (List.lt_trans e h)
      rw [if_pos h, if_neg h2, if_neg h3]; omega
    · subst h
      rw [if_neg (List.lt_irrefl y), if_pos rfl]; omega
    · have h2 : ¬ y = x := fun e => List.lt_irrefl x (e ▸ h)
      have h3 : ¬ y < x := fun e => List.lt_irrefl x (List.lt_trans h e)
      rw [if_neg h3, if_neg h2, if_pos h]; omega
theorem cnt_one {x : List UInt8} {L : List (List UInt8)} (hn : L.Nodup) (hx : x ∈ L) : L.countP (fun y => decide (y = x)) = 1 := by
  induction L with
  | nil => cases hx
  | cons y r ih =>
    rw [List.nodup_cons] at hn
    rw [List.countP_cons]
    rcases List.mem_cons.1 hx with rfl | hx
    · have : r.countP (fun y => decide (y = x)) = 0 := by
        rw [List.countP_eq_zero]
        intro z hz
        simp only [decide_eq_true_eq]
        intro e; exact hn.1 (e ▸ hz)
      rw [this]; simp
    · have hne : ¬ y = x := fun e => hn.1 (e ▸ hx)
      rw [ih hn.2 hx]; simp [hne]
theorem swap_perm (n : Nat) : ((wlI n).map swL').Perm (wlI n) := by
  have hinj : ∀ a b : List UInt8, swL' a = swL' b → a = b := fun a b e => by
    have := congrArg swL' e
    rwa [swL'_swL', swL'_swL'] at this
  have hnd : ((wlI n).map swL').Nodup := by
    have h := wlI_nodup n
    rw [List.nodup_iff_pairwise_ne] at h ⊢
    rw [List.pairwise_map]
    exact h.imp fun hne e => hne (hinj _ _ e)
  refine (List.perm_ext_iff_of_nodup hnd (wlI_nodup n)).2 fun a => ?_
  constructor
  · intro h
    obtain ⟨b, hb, rfl⟩ := List.mem_map.1 h
    exact swap_mem hb
  · intro h
    exact List.mem_map.2 ⟨swL' a, swap_mem h, swL'_swL' a⟩
/-- exchanged words stand opposite -/
theorem rank_opp {n : Nat} {l : List UInt8} (h : l ∈ wlI n) : cntLt (wlS n) (swL' l) + cntLt (wlS n) l + 1 = 2 ^ n := by
  have hp := wl_perm n
  rw [← cntLt_perm hp, ← cntLt_perm hp]
  have h1 : cntLt (wlI n) (swL' l) = (wlI n).countP fun y => decide (l < y) := by
    rw [← cntLt_perm (swap_perm n)]
    unfold cntLt
    rw [List.countP_map]
    refine List.countP_congr fun y hy => ?_
    show decide (swL' y < swL' l) = true ↔ decide (l < y) = true
    rw [decide_eq_true_iff, decide_eq_true_iff]
    exact swap_lt_iff h hy
  have h2 := cnt_tri l (wlI n)
  rw [cnt_one (wlI_nodup n) h, wlI_len] at h2
  rw [h1]
  unfold cntLt
  omega
theorem rank_lt {n : Nat} {l : List UInt8} (h : l ∈ wlI n) : cntLt (wlS n) l < 2 ^ n := by
  have := rank_opp h
  omega
theorem rankZ_pos {l : List UInt8} (h : 0 ≤ rankZ l) : ∃ n, n ≤ 6 ∧ l ∈ wlI n ∧ rankZ l = (cntLt (wlS n) l : Int) := by
  cases hw : wrdB l with
  | false => rw [rankZ_no hw] at h; omega
  | true =>
    obtain ⟨n, h6, hn⟩ := wrd_iff.1 hw
    exact ⟨n, h6, hn, rankZ_at h6 hn⟩
end Go.Proofs.Ytfhogdbhfbnocaa
