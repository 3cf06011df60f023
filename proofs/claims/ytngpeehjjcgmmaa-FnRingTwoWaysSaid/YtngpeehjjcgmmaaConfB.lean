/- What the ring of linked creases folds down to is what its word, read round, comes down to. No condition but sizes. -/
import Derived.Test.YtngpeehjjcgmmaaSpecF
import Derived.Test.YtngpeehjjcgmmaaConf
namespace Go.Proofs.Ytngpeehjjcgmmaa

theorem crimp_step {n i : Nat} {x : Nat → Int} {f : Nat → Nat} (hi : i < n) (h : allowedB n x f i = true) : Step (seg x f 0 n) (seg (crimpX n x i) (fun k => f (sig n i k)) 0 (n - 2)) := by
  obtain ⟨h4, hne, hmin⟩ := (allowed_iff hi).1 h
  have hX : ∀ y, Ltr.X y ∈ seg x f 0 n → x i ≤ y := by
    intro y hy
    obtain ⟨k, hk, rfl⟩ := seg_X hy
    exact hmin _ (by omega)
  by_cases i0 : i = 0
  · subst i0
    obtain ⟨m, rfl⟩ : ∃ m, n = 2 + (m + 1) := ⟨n - 3, by omega⟩
    have e1 : seg x f 0 (2 + (m + 1)) = (.F (f 0) :: .X (x 0) :: .F (f 1) :: .X (x 1) :: (seg x f 2 m ++ [.F (f (2 + m))])) ++ [.X (x (2 + m))] := by
      rw [seg_app, seg_app]; simp [seg]
    have e2 : seg (crimpX (2 + (m + 1)) x 0) (fun k => f (sig (2 + (m + 1)) 0 k)) 0 (2 + (m + 1) - 2) = [.F (f (2 + m))] ++ (.X (x (2 + m) + x 1 - x 0) :: seg x f 2 m) := by
      rw [show 2 + (m + 1) - 2 = 1 + m from by omega, seg_app]
      simp only [seg, List.cons_append, List.nil_append]
      have g1 : crimpX (2 + (m + 1)) x 0 0 = x (2 + m) + x 1 - x 0 := by
        unfold crimpX
        have hp : prv (2 + (m + 1)) 0 = 2 + m := by unfold prv; rw [if_pos rfl]; omega
        have hn : nxt (2 + (m + 1)) 0 = 1 := by unfold nxt; rw [if_neg (by omega)]
        rw [hp, hn, if_pos (by unfold sig; rw [if_pos rfl, if_pos rfl]; omega)]; omega
      have g2 : sig (2 + (m + 1)) 0 0 = 2 + m := by unfold sig; rw [if_pos rfl, if_pos rfl]; omega
      rw [g1, g2]
      congr 2
      apply seg_congr
      · intro k hk
        have hs : sig (2 + (m + 1)) 0 (0 + 1 + k) = 2 + k := by unfold sig; rw [if_pos rfl, if_neg (by omega)]; omega
        unfold crimpX
        rw [hs, if_neg (by unfold prv; simp; omega)]
      · intro k hk
        show f _ = _
        have hs : sig (2 + (m + 1)) 0 (0 + 1 + k) = 2 + k := by unfold sig; rw [if_pos rfl, if_neg (by omega)]; omega
        rw [hs]
    have hn : nxt (2 + (m + 1)) 0 = 1 := by unfold nxt; rw [if_neg (by omega)]
    rw [hn] at hne
    refine step_mk (a := x (2 + m)) (g := f 0) (b := x 0) (h := f 1) (c := x 1) (rest := seg x f 2 m ++ [.F (f (2 + m))]) ?_ ?_ hne hX (by simp [seg_len]; omega)
    · rw [e1]; exact rot_mk _ _
    · rw [e2]; exact rot_mk (.X (x (2 + m) + x 1 - x 0) :: seg x f 2 m) [.F (f (2 + m))]
  · by_cases i1 : i = n - 1
    · obtain ⟨m, rfl⟩ : ∃ m, n = 1 + (m + 2) := ⟨n - 3, by omega⟩
      have i2 : i = m + 2 := by omega
      subst i2
      have hp : prv (1 + (m + 2)) (m + 2) = 1 + m := by unfold prv; rw [if_neg i0]; omega
      have hn : nxt (1 + (m + 2)) (m + 2) = 0 := by unfold nxt; rw [if_pos (by omega)]
      have e1 : seg x f 0 (1 + (m + 2)) = (.F (f 0) :: .X (x 0) :: (seg x f 1 m ++ [.F (f (1 + m))])) ++ [.X (x (1 + m)), .F (f (m + 2)), .X (x (m + 2))] := by
        rw [seg_app, seg_app]; simp [seg]
        rw [show 1 + m + 1 = m + 2 from by omega]; simp
      have hs0 : sig (1 + (m + 2)) (m + 2) 0 = 1 + m := by unfold sig; rw [if_neg i0, if_pos (by omega), if_pos rfl]; omega
      have hsk : ∀ k, sig (1 + (m + 2)) (m + 2) (1 + k) = 1 + k := by intro k; unfold sig; rw [if_neg i0, if_pos (by omega), if_neg (by omega)]
      have e2 : seg (crimpX (1 + (m + 2)) x (m + 2)) (fun k => f (sig (1 + (m + 2)) (m + 2) k)) 0 (1 + (m + 2) - 2) = [.F (f (1 + m))] ++ (.X (x (1 + m) + x 0 - x (m + 2)) :: seg x f 1 m) := by
        rw [show 1 + (m + 2) - 2 = 1 + m from by omega, seg_app]
        simp only [seg, List.cons_append, List.nil_append]
        have g1 : crimpX (1 + (m + 2)) x (m + 2) 0 = x (1 + m) + x 0 - x (m + 2) := by
          unfold crimpX
          rw [hp, hn, hs0, if_pos rfl]; omega
        rw [g1, hs0]
        congr 2
        apply seg_congr
        · intro k hk
          rw [show 0 + 1 + k = 1 + k from by omega]
          unfold crimpX
          rw [hsk, hp, if_neg (by omega)]
        · intro k hk
          show f _ = _
          rw [show 0 + 1 + k = 1 + k from by omega, hsk]
      rw [hn] at hne
      refine step_mk (a := x (1 + m)) (g := f (m + 2)) (b := x (m + 2)) (h := f 0) (c := x 0) (rest := seg x f 1 m ++ [.F (f (1 + m))]) ?_ ?_ hne hX (by simp [seg_len]; omega)
      · rw [e1]; exact rot_mk _ _
      · rw [e2]; exact rot_mk (.X (x (1 + m) + x 0 - x (m + 2)) :: seg x f 1 m) [.F (f (1 + m))]
    · obtain ⟨p, rfl⟩ : ∃ p, i = p + 1 := ⟨i - 1, by omega⟩
      obtain ⟨m, rfl⟩ : ∃ m, n = p + (3 + m) := ⟨n - p - 3, by omega⟩
      have hp : prv (p + (3 + m)) (p + 1) = p := by unfold prv; rw [if_neg i0]; omega
      have hn : nxt (p + (3 + m)) (p + 1) = p + 2 := by unfold nxt; rw [if_neg (by omega)]
      have e1 : seg x f 0 (p + (3 + m)) = (seg x f 0 p ++ [.F (f p)]) ++ (.X (x p) :: .F (f (p + 1)) :: .X (x (p + 1)) :: .F (f (p + 2)) :: .X (x (p + 2)) :: seg x f (p + 3) m) := by
        rw [seg_app, seg_app]; simp [seg]
      have hsk : ∀ k, k ≤ p → sig (p + (3 + m)) (p + 1) k = k := by intro k hk; unfold sig; rw [if_neg i0, if_neg i1, if_pos (by omega)]
      have hsg : ∀ k, p < k → sig (p + (3 + m)) (p + 1) k = k + 2 := by intro k hk; unfold sig; rw [if_neg i0, if_neg i1, if_neg (by omega)]
      have e2 : seg (crimpX (p + (3 + m)) x (p + 1)) (fun k => f (sig (p + (3 + m)) (p + 1) k)) 0 (p + (3 + m) - 2) = (seg x f 0 p ++ [.F (f p)]) ++ (.X (x p + x (p + 2) - x (p + 1)) :: seg x f (p + 3) m) := by
        rw [show p + (3 + m) - 2 = p + (1 + m) from by omega, seg_app, seg_app, List.append_assoc]
        have s1 : seg (crimpX (p + (3 + m)) x (p + 1)) (fun k => f (sig (p + (3 + m)) (p + 1) k)) 0 p = seg x f 0 p := by
          apply seg_congr
          · intro k hk
            unfold crimpX
            rw [hsk _ (by omega), hp, if_neg (by omega)]
          · intro k hk
            show f _ = _
            rw [hsk _ (by omega)]
        have s2 : seg (crimpX (p + (3 + m)) x (p + 1)) (fun k => f (sig (p + (3 + m)) (p + 1) k)) (0 + p + 1) m = seg x f (p + 3) m := by
          apply seg_congr
          · intro k hk
            unfold crimpX
            rw [hsg _ (by omega), hp, if_neg (by omega)]
            congr 1; omega
          · intro k hk
            show f _ = _
            rw [hsg _ (by omega)]
            congr 1; omega
        rw [s1, s2]
        congr 1
        simp only [seg, Nat.zero_add, List.cons_append, List.nil_append]
        have g1 : crimpX (p + (3 + m)) x (p + 1) p = x p + x (p + 2) - x (p + 1) := by
          unfold crimpX
          rw [hp, hn, hsk _ (Nat.le_refl _), if_pos rfl]; omega
        rw [g1, hsk _ (Nat.le_refl _)]
      rw [hn] at hne
      refine step_mk (a := x p) (g := f (p + 1)) (b := x (p + 1)) (h := f (p + 2)) (c := x (p + 2)) (rest := seg x f (p + 3) m ++ (seg x f 0 p ++ [.F (f p)])) ?_ ?_ hne hX (by simp [seg_len]; omega)
      · rw [e1]; exact rot_mk _ _
      · rw [e2]; exact rot_mk (.X (x p + x (p + 2) - x (p + 1)) :: seg x f (p + 3) m) _

theorem rot_get {l m : List Ltr} (h : Rot l m) (hn : 0 < l.length) : ∃ p, p < l.length ∧ ∀ j, j < l.length → m[j]? = l[(p + j) % l.length]? := by
  obtain ⟨u, v, rfl, rfl⟩ := h
  simp at hn
  by_cases hv : v.length = 0
  · have : v = [] := List.eq_nil_of_length_eq_zero hv
    subst this
    refine ⟨0, by simpa using hn, fun j hj => ?_⟩
    simp at hj
    simp [Nat.mod_eq_of_lt hj]
  · refine ⟨u.length, by simp; omega, fun j hj => ?_⟩
    simp at hj
    by_cases hjv : j < v.length
    · rw [List.getElem?_append_left hjv, List.length_append, Nat.mod_eq_of_lt (by omega), List.getElem?_append_right (by omega)]
      congr 1; omega
    · rw [List.getElem?_append_right (by omega), List.length_append, Nat.mod_eq_sub_mod (by omega), Nat.mod_eq_of_lt (by omega), List.getElem?_append_left (by omega)]
      congr 1; omega
theorem step_allowed {n : Nat} {x : Nat → Int} {f : Nat → Nat} {m : List Ltr} (h : Step (seg x f 0 n) m) : ∃ i, i < n ∧ allowedB n x f i = true := by
  have h8 := h.len8
  rw [seg_len] at h8
  obtain ⟨a, g, b, hh, c, rest, r1, r2, hne, hmin, hlen⟩ := h
  obtain ⟨p, hp, hg⟩ := rot_get r1 (by rw [seg_len]; omega)
  rw [seg_len] at hp hg
  have j0 := hg 0 (by omega)
  have j1 := hg 1 (by omega)
  have j2 := hg 2 (by omega)
  have j3 := hg 3 (by omega)
  simp only [List.getElem?_cons_zero, List.getElem?_cons_succ, Nat.add_zero] at j0 j1 j2 j3
  rw [Nat.mod_eq_of_lt hp] at j0
  have hodd : ∃ k, p = 2 * k + 1 := by
    rcases Nat.mod_two_eq_zero_or_one p with e | e
    · have := (seg_get (x := x) (f := f) (a := 0) (m := n) (k := p / 2) (by omega)).1
      rw [show 2 * (p / 2) = p from by omega] at this
      rw [this] at j0
      cases j0
    · exact ⟨p / 2, by omega⟩
  obtain ⟨k, rfl⟩ := hodd
  have hk : k < n := by omega
  have hni := nxt_lt hk
  have hnn := nxt_lt hni
  have m1 : (2 * k + 1 + 1) % (2 * n) = 2 * nxt n k := by
    unfold nxt; split
    · rw [show 2 * k + 1 + 1 = 2 * n from by omega]; simp
    · rw [Nat.mod_eq_of_lt (by omega)]; omega
  have m2 : (2 * k + 1 + 2) % (2 * n) = 2 * nxt n k + 1 := by
    rw [show 2 * k + 1 + 2 = (2 * k + 1 + 1) + 1 from by omega, Nat.add_mod, m1, Nat.mod_eq_of_lt (show 1 < 2 * n by omega), Nat.mod_eq_of_lt (by omega)]
  have m3 : (2 * k + 1 + 3) % (2 * n) = 2 * nxt n (nxt n k) := by
    rw [show 2 * k + 1 + 3 = (2 * k + 1 + 2) + 1 from by omega, Nat.add_mod, m2, Nat.mod_eq_of_lt (show 1 < 2 * n by omega)]
    generalize nxt n k = y at hni ⊢
    unfold nxt; split
    · rw [show 2 * y + 1 + 1 = 2 * n from by omega]; simp
    · rw [Nat.mod_eq_of_lt (by omega)]; omega
  rw [m1, (seg_get hni).1] at j1
  rw [m2, (seg_get hni).2] at j2
  rw [m3, (seg_get hnn).1] at j3
  simp only [Nat.zero_add, Option.some.injEq, Ltr.F.injEq, Ltr.X.injEq] at j1 j2 j3
  refine ⟨nxt n k, hni, (allowed_iff hni).2 ⟨by omega, by rw [← j1, ← j3]; exact hne, fun q hq => ?_⟩⟩
  rw [← j2]
  have := seg_mem (x := x) (f := f) (a := 0) (m := n) (k := q) hq
  rw [Nat.zero_add] at this
  exact hmin _ this

theorem firstC_some {n i : Nat} {x : Nat → Int} {f : Nat → Nat} (h : firstC n x f = some i) : i < n ∧ allowedB n x f i = true := by
  unfold firstC at h
  have hm : i ∈ (List.range n).filter (allowedB n x f) := List.mem_of_mem_head? h
  rw [List.mem_filter, List.mem_range] at hm
  exact hm
theorem firstC_none {n i : Nat} {x : Nat → Int} {f : Nat → Nat} (h : firstC n x f = none) (hi : i < n) : allowedB n x f i = false := by
  unfold firstC at h
  rw [List.head?_eq_none_iff, List.filter_eq_nil_iff] at h
  simpa using h i (List.mem_range.2 hi)
theorem down_pair {x : Nat → Int} {f : Nat → Nat} : Down (seg x f 0 2) ↔ x 0 = x 1 ∧ f 0 = f 1 := by
  simp only [seg]
  constructor
  · intro d
    cases d with
    | two a g _ r =>
      have h1 := (r.mem (.X (x 0))).1 (by simp)
      have h2 := (r.mem (.X (x 1))).1 (by simp)
      have h3 := (r.mem (.F (f 0))).1 (by simp)
      have h4 := (r.mem (.F (f 1))).1 (by simp)
      simp at h1 h2 h3 h4
      omega
    | step _ m s _ => have := s.len8; simp at this
  · rintro ⟨h1, h2⟩
    rw [← h1, ← h2]
    exact .two (x 0) (f 0) _ (rot_mk [.F (f 0)] [.X (x 0), .F (f 0), .X (x 0)])
theorem sig_bin {n i : Nat} {f : Nat → Nat} (hn : 4 ≤ n) (hi : i < n) (hb : ∀ k, k < n → f k = 77 ∨ f k = 86) : ∀ k, k < n - 2 → f (sig n i k) = 77 ∨ f (sig n i k) = 86 :=
  fun _ hk => hb _ (sig_lt hn hi hk).1
theorem seg_bin {n : Nat} {x : Nat → Int} {f : Nat → Nat} (hb : ∀ k, k < n → f k = 77 ∨ f k = 86) : Bin (seg x f 0 n) := by
  intro g hg
  obtain ⟨k, hk, rfl⟩ := seg_F hg
  exact hb _ (by omega)
theorem foldsN_down : ∀ (g : Nat) {n : Nat} {x : Nat → Int} {f : Nat → Nat}, n % 2 = 0 → 2 ≤ n → n ≤ 2 * g → (∀ k, k < n → f k = 77 ∨ f k = 86) → (foldsN g n x f = true ↔ Down (seg x f 0 n)) := by
  intro g
  induction g with
  | zero => intro n x f _ h2 hg; omega
  | succ g ih =>
    intro n x f he h2 hg hb
    rw [foldsN]
    cases hc : firstC n x f with
    | none =>
      simp only [Bool.and_eq_true, decide_eq_true_eq]
      constructor
      · rintro ⟨rfl, h⟩; exact down_pair.2 h
      · intro d
        have hno : ∀ m, ¬ Step (seg x f 0 n) m := by
          intro m s
          obtain ⟨i, hi, ha⟩ := step_allowed s
          rw [firstC_none hc hi] at ha
          cases ha
        cases hd : d with
        | two a q _ r =>
          have := r.len
          rw [seg_len] at this
          simp at this
          have : n = 2 := by omega
          subst this
          exact ⟨rfl, down_pair.1 d⟩
        | step _ m s _ => exact absurd s (hno m)
    | some i =>
      obtain ⟨hi, ha⟩ := firstC_some hc
      have h4 := ((allowed_iff hi).1 ha).1
      simp only
      rw [ih (by omega) (by omega) (by omega) (sig_bin h4 hi hb)]
      exact (down_iff (crimp_step hi ha) (by rw [seg_len]; omega) (seg_bin hb)).symm

/-- the word of angles and folds -/
def wl : List Int → List UInt8 → List Ltr
  | x :: xs, c :: cs => .F c.toNat :: .X x :: wl xs cs
  | _, _ => []
theorem wl_app {xs ys : List Int} {cs ds : List UInt8} (h : xs.length = cs.length) : wl (xs ++ ys) (cs ++ ds) = wl xs cs ++ wl ys ds := by
  induction xs generalizing cs with
  | nil =>
    cases cs with
    | nil => simp [wl]
    | cons c r => simp at h
  | cons x r ih =>
    cases cs with
    | nil => simp at h
    | cons c r' => simp [wl, ih (by simpa using h)]
theorem seg_wl {x : Nat → Int} {f : Nat → Nat} {a : Nat} {xs : List Int} {cs : List UInt8} (h : xs.length = cs.length) (hx : ∀ k, k < xs.length → x (a + k) = xs.getD k 0) (hf : ∀ k, k < xs.length → f (a + k) = (cs.getD k 0).toNat) : seg x f a xs.length = wl xs cs := by
  induction xs generalizing cs a with
  | nil =>
    cases cs with
    | nil => simp [wl, seg]
    | cons c r => simp at h
  | cons y r ih =>
    cases cs with
    | nil => simp at h
    | cons c r' =>
      have h1 := hx 0 (by simp)
      have h2 := hf 0 (by simp)
      simp at h1 h2
      rw [List.length_cons, seg, wl, h1, h2, ih (by simpa using h)]
      · intro k hk
        have := hx (k + 1) (by simp; omega)
        rw [show a + 1 + k = a + (k + 1) from by omega, this]; simp
      · intro k hk
        have := hf (k + 1) (by simp; omega)
        rw [show a + 1 + k = a + (k + 1) from by omega, this]; simp
theorem size_list (s : ByteArray) : s.data.toList.length = s.size := Array.length_toList
theorem seg_word {xs : List Int} {s : ByteArray} (h : xs.length = s.size) : seg (angleAt xs) (byteAt s) 0 xs.length = wl xs s.data.toList :=
  seg_wl (h.trans (size_list s).symm) (fun k _ => by rw [Nat.zero_add]; rfl) (fun k _ => by rw [Nat.zero_add]; rfl)
theorem fvB_bin {cs : List UInt8} {n : Int} (h : fvB cs n = true) : ∀ c ∈ cs, c = 77 ∨ c = 86 := by
  unfold fvB at h
  simp only [Bool.and_eq_true, List.all_eq_true] at h
  intro c hc
  have := h.2 c hc
  unfold mvB at this
  simp only [Bool.or_eq_true, decide_eq_true_eq] at this
  rcases this with e | e
  · exact Or.inl (UInt8.toNat_inj.1 (by rw [e]; rfl))
  · exact Or.inr (UInt8.toNat_inj.1 (by rw [e]; rfl))
theorem fvB_at {s : ByteArray} {n : Nat} (h : fvB s.data.toList n = true) : ∀ k, k < n → byteAt s k = 77 ∨ byteAt s k = 86 := by
  intro k hk
  have hs := fvB_size h
  have hm : s.data.toList.getD k 0 ∈ s.data.toList := by
    have hk' : k < s.data.toList.length := by rw [size_list, hs]; exact hk
    rw [List.getD_eq_getElem?_getD, List.getElem?_eq_getElem hk']
    simp
  rcases fvB_bin h _ hm with e | e
  · left; unfold byteAt; rw [e]; rfl
  · right; unfold byteAt; rw [e]; rfl
theorem ffB_down {xs : List Int} {s : ByteArray} (he : xs.length % 2 = 0) (h2 : 2 ≤ xs.length) (h10 : xs.length ≤ 20) (hf : fvB s.data.toList xs.length = true) : ffB xs s = true ↔ Down (wl xs s.data.toList) := by
  unfold ffB
  rw [foldsN_down 10 he h2 (by omega) (fvB_at hf), seg_word (fvB_size hf).symm]
theorem vfB_down {xs : List Int} {s : ByteArray} : vfB xs s = true ↔ acB xs = true ∧ fvB s.data.toList xs.length = true ∧ Down (wl xs s.data.toList) := by
  unfold vfB
  simp only [Bool.and_eq_true]
  constructor
  · rintro ⟨⟨h1, h2⟩, h3⟩
    have ha := h1
    unfold acB at ha
    simp only [Bool.and_eq_true] at ha
    obtain ⟨e, l2, l10, _⟩ := avB_parts ha.1
    exact ⟨h1, h2, (ffB_down e l2 (by omega) h2).1 h3⟩
  · rintro ⟨h1, h2, h3⟩
    have ha := h1
    unfold acB at ha
    simp only [Bool.and_eq_true] at ha
    obtain ⟨e, l2, l10, _⟩ := avB_parts ha.1
    exact ⟨⟨h1, h2⟩, (ffB_down e l2 (by omega) h2).2 h3⟩
theorem rfB_down {xs : List Int} {s : ByteArray} : rfB xs s = true ↔ rvB xs s.data.toList = true ∧ Down (wl xs s.data.toList) := by
  unfold rfB
  simp only [Bool.and_eq_true]
  have key : rvB xs s.data.toList = true → (ffB xs s = true ↔ Down (wl xs s.data.toList)) := by
    intro h
    unfold rvB at h
    simp only [Bool.and_eq_true, decide_eq_true_eq] at h
    obtain ⟨⟨⟨h1, h2⟩, h3⟩, _⟩ := h
    obtain ⟨l1, l6, _⟩ := lvB_parts h1
    exact ffB_down h2 (by omega) (by omega) h3
  constructor
  · rintro ⟨h1, h2⟩; exact ⟨h1, (key h1).1 h2⟩
  · rintro ⟨h1, h2⟩; exact ⟨h1, (key h1).2 h2⟩
end Go.Proofs.Ytngpeehjjcgmmaa
