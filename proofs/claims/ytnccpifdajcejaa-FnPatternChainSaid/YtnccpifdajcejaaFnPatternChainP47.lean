/- What the ring of linked creases folds down to is what its word, read round, comes down to. No condition but sizes. What turning, reading backwards and exchanging folds do to a vertex that folds; its balance; what a crimp does to sums. No condition but sizes. -/
import Derived.Test.YtnccpifdajcejaaFnPatternChainP45
import Derived.Test.YtnccpifdajcejaaFnPatternChainP46
namespace Go.Proofs.Ytnccpifdajcejaa

theorem crimp_step {n i : Nat} {x : Nat → Int} {f : Nat → Nat} (hi : i < n) (h : allowedB n x f i = true) : Step (seg x f 0 n) (seg (crimpX n x i) (fun k => f (sig n i k)) 0 (n - 2)) := by
  obtain ⟨h4, hne, hmin⟩ := (allowed_iff hi).1 h
  have hX : ∀ y, Ltr.X y ∈ seg x f 0 n → x i ≤ y := by
    intro y hy
    obtain ⟨k, hk, rfl⟩ := seg_X hy
    exact hmin _ (by omega)
  by_cases i0 : i = 0
  · subst i0
    obtain ⟨m, rfl⟩ : ∃ m, n = 2 + (m + 1) := ⟨n - 3, by omega⟩
    have e1 : seg x f 0 (2 + (m + 1)) = (.F (f 0) :: .X (x 0) :: .F (f 1) :: .X (x 1) :: (seg x f 2 m ++ [.F (f (2 + m))])) ++ [.X (x (2 + m))] := by
      rw [seg_app, seg_app]; simp [seg]
    have e2 : seg (crimpX (2 + (m + 1)) x 0) (fun k => f (sig (2 + (m + 1)) 0 k)) 0 (2 + (m + 1) - 2) = [.F (f (2 + m))] ++ (.X (x (2 + m) + x 1 - x 0) :: seg x f 2 m) := by
      rw [show 2 + (m + 1) - 2 = 1 + m from by omega, seg_app]
      simp only [seg, List.cons_append, List.nil_append]
      have g1 : crimpX (2 + (m + 1)) x 0 0 = x (2 + m) + x 1 - x 0 := by
        unfold crimpX
        have hp : prv (2 + (m + 1)) 0 = 2 + m := by unfold prv; rw [if_pos rfl]; omega
        have hn : nxt (2 + (m + 1)) 0 = 1 := by unfold nxt; rw [if_neg (by omega)]
        rw [hp, hn, if_pos (by unfold sig; rw [if_pos rfl, if_pos rfl]; omega)]; omega
      have g2 : sig (2 + (m + 1)) 0 0 = 2 + m := by unfold sig; rw [if_pos rfl, if_pos rfl]; omega
      rw [g1, g2]
      congr 2
      apply seg_congr
      · intro k hk
        have hs : sig (2 + (m + 1)) 0 (0 + 1 + k) = 2 + k := by unfold sig; rw [if_pos rfl, if_neg (by omega)]; omega
        unfold crimpX
        rw [hs, if_neg (by unfold prv; simp; omega)]
      · intro k hk
        show f _ = _
        have hs : sig (2 + (m + 1)) 0 (0 + 1 + k) = 2 + k := by unfold sig; rw [if_pos rfl, if_neg (by omega)]; omega
        rw [hs]
    have hn : nxt (2 + (m + 1)) 0 = 1 := by unfold nxt; rw [if_neg (by omega)]
    rw [hn] at hne
    refine step_mk (a := x (2 + m)) (g := f 0) (b := x 0) (h := f 1) (c := x 1) (rest := seg x f 2 m ++ [.F (f (2 + m))]) ?_ ?_ hne hX (by simp [seg_len]; omega)
    · rw [e1]; exact rot_mk _ _
    · rw [e2]; exact rot_mk (.X (x (2 + m) + x 1 - x 0) :: seg x f 2 m) [.F (f (2 + m))]
  · by_cases i1 : i = n - 1
    · obtain ⟨m, rfl⟩ : ∃ m, n = 1 + (m + 2) := ⟨n - 3, by omega⟩
      have i2 : i = m + 2 := by omega
      subst i2
      have hp : prv (1 + (m + 2)) (m + 2) = 1 + m := by unfold prv; rw [if_neg i0]; omega
      have hn : nxt (1 + (m + 2)) (m + 2) = 0 := by unfold nxt; rw [if_pos (by omega)]
      have e1 : seg x f 0 (1 + (m + 2)) = (.F (f 0) :: .X (x 0) :: (seg x f 1 m ++ [.F (f (1 + m))])) ++ [.X (x (1 + m)), .F (f (m + 2)), .X (x (m + 2))] := by
        rw [seg_app, seg_app]; simp [seg]
        rw [show 1 + m + 1 = m + 2 from by omega]; simp
      have hs0 : sig (1 + (m + 2)) (m + 2) 0 = 1 + m := by unfold sig; rw [if_neg i0, if_pos (by omega), if_pos rfl]; omega
      have hsk : ∀ k, sig (1 + (m + 2)) (m + 2) (1 + k) = 1 + k := by intro k; unfold sig; rw [if_neg i0, if_pos (by omega), if_neg (by omega)]
      have e2 : seg (crimpX (1 + (m + 2)) x (m + 2)) (fun k => f (sig (1 + (m + 2)) (m + 2) k)) 0 (1 + (m + 2) - 2) = [.F (f (1 + m))] ++ (.X (x (1 + m) + x 0 - x (m + 2)) :: seg x f 1 m) := by
        rw [show 1 + (m + 2) - 2 = 1 + m from by omega, seg_app]
        simp only [seg, List.cons_append, List.nil_append]
        have g1 : crimpX (1 + (m + 2)) x (m + 2) 0 = x (1 + m) + x 0 - x (m + 2) := by
          unfold crimpX
          rw [hp, hn, hs0, if_pos rfl]; omega
        rw [g1, hs0]
        congr 2
        apply seg_congr
        · intro k hk
          rw [show 0 + 1 + k = 1 + k from by omega]
          unfold crimpX
          rw [hsk, hp, if_neg (by omega)]
        · intro k hk
          show f _ = _
          rw [show 0 + 1 + k = 1 + k from by omega, hsk]
      rw [hn] at hne
      refine step_mk (a := x (1 + m)) (g := f (m + 2)) (b := x (m + 2)) (h := f 0) (c := x 0) (rest := seg x f 1 m ++ [.F (f (1 + m))]) ?_ ?_ hne hX (by simp [seg_len]; omega)
      · rw [e1]; exact rot_mk _ _
      · rw [e2]; exact rot_mk (.X (x (1 + m) + x 0 - x (m + 2)) :: seg x f 1 m) [.F (f (1 + m))]
    · obtain ⟨p, rfl⟩ : ∃ p, i = p + 1 := ⟨i - 1, by omega⟩
      obtain ⟨m, rfl⟩ : ∃ m, n = p + (3 + m) := ⟨n - p - 3, by omega⟩
      have hp : prv (p + (3 + m)) (p + 1) = p := by unfold prv; rw [if_neg i0]; omega
      have hn : nxt (p + (3 + m)) (p + 1) = p + 2 := by unfold nxt; rw [if_neg (by omega)]
      have e1 : seg x f 0 (p + (3 + m)) = (seg x f 0 p ++ [.F (f p)]) ++ (.X (x p) :: .F (f (p + 1)) :: .X (x (p + 1)) :: .F (f (p + 2)) :: .X (x (p + 2)) :: seg x f (p + 3) m) := by
        rw [seg_app, seg_app]; simp [seg]
      have hsk : ∀ k, k ≤ p → sig (p + (3 + m)) (p + 1) k = k := by intro k hk; unfold sig; rw [if_neg i0, if_neg i1, if_pos (by omega)]
      have hsg : ∀ k, p < k → sig (p + (3 + m)) (p + 1) k = k + 2 := by intro k hk; unfold sig; rw [if_neg i0, if_neg i1, if_neg (by omega)]
      have e2 : seg (crimpX (p + (3 + m)) x (p + 1)) (fun k => f (sig (p + (3 + m)) (p + 1) k)) 0 (p + (3 + m) - 2) = (seg x f 0 p ++ [.F (f p)]) ++ (.X (x p + x (p + 2) - x (p + 1)) :: seg x f (p + 3) m) := by
        rw [show p + (3 + m) - 2 = p + (1 + m) from by omega, seg_app, seg_app, List.append_assoc]
        have s1 : seg (crimpX (p + (3 + m)) x (p + 1)) (fun k => f (sig (p + (3 + m)) (p + 1) k)) 0 p = seg x f 0 p := by
          apply seg_congr
          · intro k hk
            unfold crimpX
            rw [hsk _ (by omega), hp, if_neg (by omega)]
          · intro k hk
            show f _ = _
            rw [hsk _ (by omega)]
        have s2 : seg (crimpX (p + (3 + m)) x (p + 1)) (fun k => f (sig (p + (3 + m)) (p + 1) k)) (0 + p + 1) m = seg x f (p + 3) m := by
          apply seg_congr
          · intro k hk
            unfold crimpX
            rw [hsg _ (by omega), hp, if_neg (by omega)]
            congr 1; omega
          · intro k hk
            show f _ = _
            rw [hsg _ (by omega)]
            congr 1; omega
        rw [s1, s2]
        congr 1
        simp only [seg, Nat.zero_add, List.cons_append, List.nil_append]
        have g1 : crimpX (p + (3 + m)) x (p + 1) p = x p + x (p + 2) - x (p + 1) := by
          unfold crimpX
          rw [hp, hn, hsk _ (Nat.le_refl _), if_pos rfl]; omega
        rw [g1, hsk _ (Nat.le_refl _)]
      rw [hn] at hne
      refine step_mk (a := x p) (g := f (p + 1)) (b := x (p + 1)) (h := f (p + 2)) (c := x (p + 2)) (rest := seg x f (p + 3) m ++ (seg x f 0 p ++ [.F (f p)])) ?_ ?_ hne hX (by simp [seg_len]; omega)
      · rw [e1]; exact rot_mk _ _
      · rw [e2]; exact rot_mk (.X (x p + x (p + 2) - x (p + 1)) :: seg x f (p + 3) m) _

theorem rot_get {l m : List Ltr} (h : Rot l m) (hn : 0 < l.length) : ∃ p, p < l.length ∧ ∀ j, j < l.length → m[j]? = l[(p + j) % l.length]? := by
  obtain ⟨u, v, rfl, rfl⟩ := h
  simp at hn
  by_cases hv : v.length = 0
  · have : v = [] := List.eq_nil_of_length_eq_zero hv
    subst this
    refine ⟨0, by simpa using hn, fun j hj => ?_⟩
    simp at hj
    simp [Nat.mod_eq_of_lt hj]
  · refine ⟨u.length, by simp; omega, fun j hj => ?_⟩
    simp at hj
    by_cases hjv : j < v.length
    · rw [List.getElem?_append_left hjv, List.length_append, Nat.mod_eq_of_lt (by omega), List.getElem?_append_right (by omega)]
      congr 1; omega
    · rw [List.getElem?_append_right (by omega), List.length_append, Nat.mod_eq_sub_mod (by omega), Nat.mod_eq_of_lt (by omega), List.getElem?_append_left (by omega)]
      congr 1; omega
theorem step_allowed {n : Nat} {x : Nat → Int} {f : Nat → Nat} {m : List Ltr} (h : Step (seg x f 0 n) m) : ∃ i, i < n ∧ allowedB n x f i = true := by
  have h8 := h.len8
  rw [seg_len] at h8
  obtain ⟨a, g, b, hh, c, rest, r1, r2, hne, hmin, hlen⟩ := h
  obtain ⟨p, hp, hg⟩ := rot_get r1 (by rw [seg_len]; omega)
  rw [seg_len] at hp hg
  have j0 := hg 0 (by omega)
  have j1 := hg 1 (by omega)
  have j2 := hg 2 (by omega)
  have j3 := hg 3 (by omega)
  simp only [List.getElem?_cons_zero, List.getElem?_cons_succ, Nat.add_zero] at j0 j1 j2 j3
  rw [Nat.mod_eq_of_lt hp] at j0
  have hodd : ∃ k, p = 2 * k + 1 := by
    rcases Nat.mod_two_eq_zero_or_one p with e | e
    · have := (seg_get (x := x) (f := f) (a := 0) (m := n) (k := p / 2) (by omega)).1
      rw [show 2 * (p / 2) = p from by omega] at this
      rw [this] at j0
      cases j0
    · exact ⟨p / 2, by omega⟩
  obtain ⟨k, rfl⟩ := hodd
  have hk : k < n := by omega
  have hni := nxt_lt hk
  have hnn := nxt_lt hni
  have m1 : (2 * k + 1 + 1) % (2 * n) = 2 * nxt n k := by
    unfold nxt; split
    · rw [show 2 * k + 1 + 1 = 2 * n from by omega]; simp
    · rw [Nat.mod_eq_of_lt (by omega)]; omega
  have m2 : (2 * k + 1 + 2) % (2 * n) = 2 * nxt n k + 1 := by
    rw [show 2 * k + 1 + 2 = (2 * k + 1 + 1) + 1 from by omega, Nat.add_mod, m1, Nat.mod_eq_of_lt (show 1 < 2 * n by omega), Nat.mod_eq_of_lt (by omega)]
  have m3 : (2 * k + 1 + 3) % (2 * n) = 2 * nxt n (nxt n k) := by
    rw [show 2 * k + 1 + 3 = (2 * k + 1 + 2) + 1 from by omega, Nat.add_mod, m2, Nat.mod_eq_of_lt (show 1 < 2 * n by omega)]
    generalize nxt n k = y at hni ⊢
    unfold nxt; split
    · rw [show 2 * y + 1 + 1 = 2 * n from by omega]; simp
    · rw [Nat.mod_eq_of_lt (by omega)]; omega
  rw [m1, (seg_get hni).1] at j1
  rw [m2, (seg_get hni).2] at j2
  rw [m3, (seg_get hnn).1] at j3
  simp only [Nat.zero_add, Option.some.injEq, Ltr.F.injEq, Ltr.X.injEq] at j1 j2 j3
  refine ⟨nxt n k, hni, (allowed_iff hni).2 ⟨by omega, by rw [← j1, ← j3]; exact hne, fun q hq => ?_⟩⟩
  rw [← j2]
  have := seg_mem (x := x) (f := f) (a := 0) (m := n) (k := q) hq
  rw [Nat.zero_add] at this
  exact hmin _ this

theorem firstC_some {n i : Nat} {x : Nat → Int} {f : Nat → Nat} (h : firstC n x f = some i) : i < n ∧ allowedB n x f i = true := by
  unfold firstC at h
  have hm : i ∈ (List.range n).filter (allowedB n x f) := List.mem_of_mem_head? h
  rw [List.mem_filter, List.mem_range] at hm
  exact hm
theorem firstC_none {n i : Nat} {x : Nat → Int} {f : Nat → Nat} (h : firstC n x f = none) (hi : i < n) : allowedB n x f i = false := by
  unfold firstC at h
  rw [List.head?_eq_none_iff, List.filter_eq_nil_iff] at h
  simpa using h i (List.mem_range.2 hi)
theorem down_pair {x : Nat → Int} {f : Nat → Nat} : Down (seg x f 0 2) ↔ x 0 = x 1 ∧ f 0 = f 1 := by
  simp only [seg]
  constructor
  · intro d
    cases d with
    | two a g _ r =>
      have h1 := (r.mem (.X (x 0))).1 (by simp)
      have h2 := (r.mem (.X (x 1))).1 (by simp)
      have h3 := (r.mem (.F (f 0))).1 (by simp)
      have h4 := (r.mem (.F (f 1))).1 (by simp)
      simp at h1 h2 h3 h4
      omega
    | step _ m s _ => have := s.len8; simp at this
  · rintro ⟨h1, h2⟩
    rw [← h1, ← h2]
    exact .two (x 0) (f 0) _ (rot_mk [.F (f 0)] [.X (x 0), .F (f 0), .X (x 0)])
theorem sig_bin {n i : Nat} {f : Nat → Nat} (hn : 4 ≤ n) (hi : i < n) (hb : ∀ k, k < n → f k = 77 ∨ f k = 86) : ∀ k, k < n - 2 → f (sig n i k) = 77 ∨ f (sig n i k) = 86 :=
  fun _ hk => hb _ (sig_lt hn hi hk).1
theorem seg_bin {n : Nat} {x : Nat → Int} {f : Nat → Nat} (hb : ∀ k, k < n → f k = 77 ∨ f k = 86) : Bin (seg x f 0 n) := by
  intro g hg
  obtain ⟨k, hk, rfl⟩ := seg_F hg
  exact hb _ (by omega)
theorem foldsN_down : ∀ (g : Nat) {n : Nat} {x : Nat → Int} {f : Nat → Nat}, n % 2 = 0 → 2 ≤ n → n ≤ 2 * g → (∀ k, k < n → f k = 77 ∨ f k = 86) → (foldsN g n x f = true ↔ Down (seg x f 0 n)) := by
  intro g
  induction g with
  | zero => intro n x f _ h2 hg; omega
  | succ g ih =>
    intro n x f he h2 hg hb
    rw [foldsN]
    cases hc : firstC n x f with
    | none =>
      simp only [Bool.and_eq_true, decide_eq_true_eq]
      constructor
      · rintro ⟨rfl, h⟩; exact down_pair.2 h
      · intro d
        have hno : ∀ m, ¬ Step (seg x f 0 n) m := by
          intro m s
          obtain ⟨i, hi, ha⟩ := step_allowed s
          rw [firstC_none hc hi] at ha
          cases ha
        cases hd : d with
        | two a q _ r =>
          have := r.len
          rw [seg_len] at this
          simp at this
          have : n = 2 := by omega
          subst this
          exact ⟨rfl, down_pair.1 d⟩
        | step _ m s _ => exact absurd s (hno m)
    | some i =>
      obtain ⟨hi, ha⟩ := firstC_some hc
      have h4 := ((allowed_iff hi).1 ha).1
      simp only
      rw [ih (by omega) (by omega) (by omega) (sig_bin h4 hi hb)]
      exact (down_iff (crimp_step hi ha) (by rw [seg_len]; omega) (seg_bin hb)).symm

/-- the word of angles and folds -/
def wl : List Int → List UInt8 → List Ltr
  | x :: xs, c :: cs => .F c.toNat :: .X x :: wl xs cs
  | _, _ => []
theorem wl_app {xs ys : List Int} {cs ds : List UInt8} (h : xs.length = cs.length) : wl (xs ++ ys) (cs ++ ds) = wl xs cs ++ wl ys ds := by
  induction xs generalizing cs with
  | nil =>
    cases cs with
    | nil => simp [wl]
    | cons c r => simp at h
  | cons x r ih =>
    cases cs with
    | nil => simp at h
    | cons c r' => simp [wl, ih (by simpa using h)]
theorem seg_wl {x : Nat → Int} {f : Nat → Nat} {a : Nat} {xs : List Int} {cs : List UInt8} (h : xs.length = cs.length) (hx : ∀ k, k < xs.length → x (a + k) = xs.getD k 0) (hf : ∀ k, k < xs.length → f (a + k) = (cs.getD k 0).toNat) : seg x f a xs.length = wl xs cs := by
  induction xs generalizing cs a with
  | nil =>
    cases cs with
    | nil => simp [wl, seg]
    | cons c r => simp at h
  | cons y r ih =>
    cases cs with
    | nil => simp at h
    | cons c r' =>
      have h1 := hx 0 (by simp)
      have h2 := hf 0 (by simp)
      simp at h1 h2
      rw [List.length_cons, seg, wl, h1, h2, ih (by simpa using h)]
      · intro k hk
        have := hx (k + 1) (by simp; omega)
        rw [show a + 1 + k = a + (k + 1) from by omega, this]; simp
      · intro k hk
        have := hf (k + 1) (by simp; omega)
        rw [show a + 1 + k = a + (k + 1) from by omega, this]; simp
theorem size_list (s : ByteArray) : s.data.toList.length = s.size := Array.length_toList
theorem seg_word {xs : List Int} {s : ByteArray} (h : xs.length = s.size) : seg (angleAt xs) (byteAt s) 0 xs.length = wl xs s.data.toList :=
  seg_wl (h.trans (size_list s).symm) (fun k _ => by rw [Nat.zero_add]; rfl) (fun k _ => by rw [Nat.zero_add]; rfl)
theorem fvB_bin {cs : List UInt8} {n : Int} (h : fvB cs n = true) : ∀ c ∈ cs, c = 77 ∨ c = 86 := by
  unfold fvB at h
  simp only [Bool.and_eq_true, List.all_eq_true] at h
  intro c hc
  have := h.2 c hc
  unfold mvB at this
  simp only [Bool.or_eq_true, decide_eq_true_eq] at this
  rcases this with e | e
  · exact Or.inl (UInt8.toNat_inj.1 (by rw [e]; rfl))
  · exact Or.inr (UInt8.toNat_inj.1 (by rw [e]; rfl))
theorem fvB_at {s : ByteArray} {n : Nat} (h : fvB s.data.toList n = true) : ∀ k, k < n → byteAt s k = 77 ∨ byteAt s k = 86 := by
  intro k hk
  have hs := fvB_size h
  have hm : s.data.toList.getD k 0 ∈ s.data.toList := by
    have hk' : k < s.data.toList.length := by rw [size_list, hs]; exact hk
    rw [List.getD_eq_getElem?_getD, List.getElem?_eq_getElem hk']
    simp
  rcases fvB_bin h _ hm with e | e
  · left; unfold byteAt; rw [e]; rfl
  · right; unfold byteAt; rw [e]; rfl
theorem ffB_down {xs : List Int} {s : ByteArray} (he : xs.length % 2 = 0) (h2 : 2 ≤ xs.length) (h10 : xs.length ≤ 20) (hf : fvB s.data.toList xs.length = true) : ffB xs s = true ↔ Down (wl xs s.data.toList) := by
  unfold ffB
  rw [foldsN_down 10 he h2 (by omega) (fvB_at hf), seg_word (fvB_size hf).symm]
theorem vfB_down {xs : List Int} {s : ByteArray} : vfB xs s = true ↔ acB xs = true ∧ fvB s.data.toList xs.length = true ∧ Down (wl xs s.data.toList) := by
  unfold vfB
  simp only [Bool.and_eq_true]
  constructor
  · rintro ⟨⟨h1, h2⟩, h3⟩
    have ha := h1
    unfold acB at ha
    simp only [Bool.and_eq_true] at ha
    obtain ⟨e, l2, l10, _⟩ := avB_parts ha.1
    exact ⟨h1, h2, (ffB_down e l2 (by omega) h2).1 h3⟩
  · rintro ⟨h1, h2, h3⟩
    have ha := h1
    unfold acB at ha
    simp only [Bool.and_eq_true] at ha
    obtain ⟨e, l2, l10, _⟩ := avB_parts ha.1
    exact ⟨⟨h1, h2⟩, (ffB_down e l2 (by omega) h2).2 h3⟩
theorem rfB_down {xs : List Int} {s : ByteArray} : rfB xs s = true ↔ rvB xs s.data.toList = true ∧ Down (wl xs s.data.toList) := by
  unfold rfB
  simp only [Bool.and_eq_true]
  have key : rvB xs s.data.toList = true → (ffB xs s = true ↔ Down (wl xs s.data.toList)) := by
    intro h
    unfold rvB at h
    simp only [Bool.and_eq_true, decide_eq_true_eq] at h
    obtain ⟨⟨⟨h1, h2⟩, h3⟩, _⟩ := h
    obtain ⟨l1, l6, _⟩ := lvB_parts h1
    exact ffB_down h2 (by omega) (by omega) h3
  constructor
  · rintro ⟨h1, h2⟩; exact ⟨h1, (key h1).1 h2⟩
  · rintro ⟨h1, h2⟩; exact ⟨h1, (key h1).2 h2⟩
end Go.Proofs.Ytnccpifdajcejaa
namespace Go.Proofs.Ytnccpifdajcejaa

/-- the sum with alternating signs -/
def altS : List Int → Int
  | [] => 0
  | x :: r => x - altS r
theorem balGo_alt (k : Nat) (s : Int) (xs : List Int) : balGo k s xs = s + (if k % 2 = 0 then altS xs else -altS xs) := by
  induction xs generalizing k s with
  | nil => simp [balGo, altS]
  | cons x r ih =>
    rw [balGo, ih, altS]
    by_cases e : k % 2 = 0
    · rw [if_pos e, if_neg (by omega), if_pos e]; omega
    · rw [if_neg e, if_pos (by omega), if_neg e]; omega
theorem balB_alt (xs : List Int) : balB xs = decide (altS xs = 0) := by
  unfold balB
  rw [balGo_alt]; simp
theorem altS_app (u v : List Int) : altS (u ++ v) = altS u + (if u.length % 2 = 0 then altS v else -altS v) := by
  induction u with
  | nil => simp [altS]
  | cons x r ih =>
    rw [List.cons_append, altS, altS, ih, List.length_cons]
    by_cases e : r.length % 2 = 0
    · rw [if_pos e, if_neg (by omega)]; omega
    · rw [if_neg e, if_pos (by omega)]; omega
theorem altS_turn {u v : List Int} (h : (u ++ v).length % 2 = 0) : altS (v ++ u) = 0 ↔ altS (u ++ v) = 0 := by
  rw [altS_app, altS_app]
  rw [List.length_append] at h
  by_cases e : u.length % 2 = 0
  · rw [if_pos e, if_pos (by omega)]; omega
  · rw [if_neg e, if_neg (by omega)]; omega
theorem altS_rev (xs : List Int) : altS xs.reverse = if xs.length % 2 = 0 then -altS xs else altS xs := by
  induction xs with
  | nil => simp [altS]
  | cons x r ih =>
    rw [List.reverse_cons, altS_app, ih, List.length_reverse, List.length_cons]
    have e1 : altS [x] = x := by simp [altS]
    rw [e1]; simp only [altS]
    by_cases e : r.length % 2 = 0
    · rw [if_pos e, if_pos e, if_neg (by omega)]; omega
    · rw [if_neg e, if_neg e, if_pos (by omega)]; omega
theorem avB_iff (xs : List Int) : avB xs = true ↔ xs.length % 2 = 0 ∧ 2 ≤ xs.length ∧ xs.length ≤ 10 ∧ (∀ x ∈ xs, 1 ≤ x ∧ x ≤ 360) ∧ xs.sum = 360 := by
  constructor
  · exact avB_parts
  · rintro ⟨a, b, c, d, e⟩
    unfold avB
    simp only [Bool.and_eq_true, decide_eq_true_eq, List.all_eq_true]
    exact ⟨⟨⟨⟨a, b⟩, c⟩, d⟩, e⟩
theorem acB_iff (xs : List Int) : acB xs = true ↔ avB xs = true ∧ altS xs = 0 := by
  unfold acB
  rw [Bool.and_eq_true, balB_alt, decide_eq_true_eq]
theorem sum_app (u v : List Int) : (u ++ v).sum = u.sum + v.sum := by
  induction u with
  | nil => simp
  | cons x r ih => rw [List.cons_append, List.sum_cons, ih, List.sum_cons]; omega
theorem sum_rev (u : List Int) : u.reverse.sum = u.sum := by
  induction u with
  | nil => rfl
  | cons x r ih => rw [List.reverse_cons, sum_app, ih, List.sum_cons]; simp; omega
theorem avB_turn {u v : List Int} (h : avB (u ++ v) = true) : avB (v ++ u) = true := by
  rw [avB_iff] at h ⊢
  obtain ⟨a, b, c, d, e⟩ := h
  rw [List.length_append] at a b c
  rw [sum_app] at e
  refine ⟨by rw [List.length_append]; omega, by rw [List.length_append]; omega, by rw [List.length_append]; omega, fun x hx => d x ?_, by rw [sum_app]; omega⟩
  rw [List.mem_append] at hx ⊢
  exact hx.symm
theorem acB_turn {u v : List Int} (h : acB (u ++ v) = true) : acB (v ++ u) = true := by
  rw [acB_iff] at h ⊢
  exact ⟨avB_turn h.1, (altS_turn (avB_parts h.1).1).2 h.2⟩
theorem avB_rev {xs : List Int} (h : avB xs = true) : avB xs.reverse = true := by
  rw [avB_iff] at h ⊢
  obtain ⟨a, b, c, d, e⟩ := h
  exact ⟨by simpa using a, by simpa using b, by simpa using c, fun x hx => d x (by simpa using hx), by rw [sum_rev]; exact e⟩
theorem acB_rev {xs : List Int} (h : acB xs = true) : acB xs.reverse = true := by
  rw [acB_iff] at h ⊢
  refine ⟨avB_rev h.1, ?_⟩
  rw [altS_rev, if_pos (avB_parts h.1).1]; omega
theorem fvB_iff (cs : List UInt8) (n : Int) : fvB cs n = true ↔ (cs.length : Int) = n ∧ ∀ c ∈ cs, mvB c = true := by
  unfold fvB
  simp only [Bool.and_eq_true, decide_eq_true_eq, List.all_eq_true]

/-- a text out of its bytes -/
abbrev bts (cs : List UInt8) : ByteArray := ⟨cs.toArray⟩
theorem bts_list (cs : List UInt8) : (bts cs).data.toList = cs := rfl
theorem bts_of (s : ByteArray) : bts s.data.toList = s := by cases s; rfl

theorem vf_turn' {u v : List Int} {u' v' : List UInt8} (hl : u.length = u'.length) (h : vfB (u ++ v) (bts (u' ++ v')) = true) : vfB (v ++ u) (bts (v' ++ u')) = true := by
  rw [vfB_down] at h ⊢
  obtain ⟨h1, h2, h3⟩ := h
  rw [bts_list] at h2 h3 ⊢
  rw [fvB_iff] at h2 ⊢
  have hl' : v.length = v'.length := by
    have := h2.1
    rw [List.length_append, List.length_append] at this; omega
  refine ⟨acB_turn h1, ⟨by rw [List.length_append, List.length_append]; omega, fun c hc => h2.2 c ?_⟩, ?_⟩
  · rw [List.mem_append] at hc ⊢; exact hc.symm
  · rw [wl_app hl] at h3
    rw [wl_app hl']
    exact h3.rot (rot_mk _ _)
theorem vf_turn {u v : List Int} {u' v' : List UInt8} (hl : u.length = u'.length) (hl' : v.length = v'.length) : vfB (v ++ u) (bts (v' ++ u')) = vfB (u ++ v) (bts (u' ++ v')) := by
  rw [Bool.eq_iff_iff]
  exact ⟨vf_turn' hl', vf_turn' hl⟩

/-- read backwards, the first letter first -/
def mirr : List UInt8 → List UInt8
  | [] => []
  | c :: r => c :: r.reverse
theorem wl_rev {xs : List Int} {cs : List UInt8} (h : xs.length = cs.length) : Rot (wl xs cs).reverse (wl xs.reverse (mirr cs)) := by
  cases cs with
  | nil =>
    have : xs = [] := List.eq_nil_of_length_eq_zero (by simpa using h)
    subst this
    exact Rot.refl _
  | cons c r =>
    -- the word backwards, its last letter taken to the front
    have key : ∀ (ys : List Int) (ds : List UInt8) (e : UInt8), ys.length = ds.length + 1 → ∃ t, (wl ys (e :: ds)).reverse = t ++ [Ltr.F e.toNat] ∧ wl ys.reverse (e :: ds.reverse) = [Ltr.F e.toNat] ++ t := by
      intro ys
      induction ys with
      | nil => intro ds e h; simp at h
      | cons y ys ih =>
        intro ds e h
        cases ds with
        | nil =>
          have : ys = [] := List.eq_nil_of_length_eq_zero (by simpa using h)
          subst this
          exact ⟨[Ltr.X y], by simp [wl], by simp [wl]⟩
        | cons d ds =>
          obtain ⟨t, e1, e2⟩ := ih ds d (by simpa using h)
          refine ⟨t ++ [Ltr.F d.toNat, Ltr.X y], ?_, ?_⟩
          · rw [wl, List.reverse_cons, List.reverse_cons, e1]; simp
          · rw [List.reverse_cons, List.reverse_cons]
            have hl : ys.reverse.length = (e :: ds.reverse).length := by simpa using h
            rw [show e :: (ds.reverse ++ [d]) = (e :: ds.reverse) ++ [d] from rfl, wl_app hl]
            have e3 : wl ys.reverse (e :: ds.reverse) = [Ltr.F e.toNat] ++ t := by
              cases hys : ys.reverse with
              | nil => rw [hys] at hl; simp at hl
              | cons z zs =>
                rw [hys] at e2
                simp only [wl, List.cons_append, List.nil_append, List.cons.injEq] at e2 ⊢
                exact ⟨trivial, e2.2⟩
            rw [e3]; simp [wl]
    obtain ⟨t, e1, e2⟩ := key xs r c (by simpa using h)
    rw [e1, mirr, e2]
    exact rot_mk _ _
theorem vf_rev {xs : List Int} {cs : List UInt8} (h : vfB xs (bts cs) = true) : vfB xs.reverse (bts (mirr cs)) = true := by
  rw [vfB_down] at h ⊢
  obtain ⟨h1, h2, h3⟩ := h
  rw [bts_list] at h2 h3 ⊢
  rw [fvB_iff] at h2 ⊢
  have hl : xs.length = cs.length := by have := h2.1; omega
  refine ⟨acB_rev h1, ⟨?_, fun c hc => h2.2 c ?_⟩, h3.rev.rot (wl_rev hl)⟩
  · rw [List.length_reverse, hl]
    cases cs <;> simp [mirr]
  · cases cs with
    | nil => exact hc
    | cons d r => simpa [mirr] using hc

/-- a letter exchanged -/
def swB (c : UInt8) : UInt8 := if c = 77 then 86 else if c = 86 then 77 else c
theorem swB_nat (c : UInt8) : (swB c).toNat = swF c.toNat := by
  unfold swB swF
  by_cases h1 : c = 77
  · rw [h1]; rfl
  · by_cases h2 : c = 86
    · rw [h2]; rfl
    · rw [if_neg h1, if_neg h2, if_neg (fun e => h1 (UInt8.toNat_inj.1 (by rw [e]; rfl))), if_neg (fun e => h2 (UInt8.toNat_inj.1 (by rw [e]; rfl)))]
theorem swB_mv {c : UInt8} (h : mvB c = true) : mvB (swB c) = true := by
  unfold swB
  by_cases h1 : c = 77
  · rw [if_pos h1]; rfl
  · by_cases h2 : c = 86
    · rw [if_neg h1, if_pos h2]; rfl
    · rw [if_neg h1, if_neg h2]; exact h
theorem swB_swB (c : UInt8) : swB (swB c) = c := by
  unfold swB
  by_cases h1 : c = 77
  · rw [h1]; rfl
  · by_cases h2 : c = 86
    · rw [h2]; rfl
    · simp [h1, h2]
theorem wl_swap (xs : List Int) (cs : List UInt8) : wl xs (cs.map swB) = (wl xs cs).map swL := by
  induction xs generalizing cs with
  | nil => simp [wl]
  | cons x r ih =>
    cases cs with
    | nil => simp [wl]
    | cons c t => simp [wl, swL, ih, swB_nat]
/-- a text with all letters exchanged -/
def swT (s : ByteArray) : ByteArray := bts (s.data.toList.map swB)
theorem swT_size (s : ByteArray) : (swT s).size = s.size := by
  show (List.toArray _).size = _
  rw [List.size_toArray, List.length_map]; exact size_list s
theorem vf_swap' {xs : List Int} {cs : List UInt8} (h : vfB xs (bts cs) = true) : vfB xs (bts (cs.map swB)) = true := by
  rw [vfB_down] at h ⊢
  obtain ⟨h1, h2, h3⟩ := h
  rw [bts_list] at h2 h3 ⊢
  rw [fvB_iff] at h2 ⊢
  refine ⟨h1, ⟨by simpa using h2.1, fun c hc => ?_⟩, by rw [wl_swap]; exact h3.swap⟩
  obtain ⟨d, hd, rfl⟩ := List.mem_map.1 hc
  exact swB_mv (h2.2 d hd)
theorem swB_map (cs : List UInt8) : (cs.map swB).map swB = cs := by
  rw [List.map_map]
  conv => rhs; rw [← List.map_id cs]
  exact List.map_congr_left fun c _ => swB_swB c
theorem vf_swap (xs : List Int) (cs : List UInt8) : vfB xs (bts (cs.map swB)) = vfB xs (bts cs) := by
  rw [Bool.eq_iff_iff]
  exact ⟨fun h => by have := vf_swap' h; rwa [swB_map] at this, vf_swap'⟩

/-- mountains less valleys of a text -/
def balT : List UInt8 → Int
  | [] => 0
  | c :: r => (if c = 77 then 1 else if c = 86 then -1 else 0) + balT r
theorem mvS_wl {xs : List Int} {cs : List UInt8} (h : xs.length = cs.length) : mvS (wl xs cs) = balT cs := by
  induction xs generalizing cs with
  | nil =>
    cases cs with
    | nil => rfl
    | cons c r => simp at h
  | cons x r ih =>
    cases cs with
    | nil => simp at h
    | cons c t =>
      rw [wl, mvS, mvS, balT, ih (by simpa using h)]
      have e1 : (c.toNat = 77) ↔ c = 77 := ⟨fun e => UInt8.toNat_inj.1 (by rw [e]; rfl), fun e => by rw [e]; rfl⟩
      have e2 : (c.toNat = 86) ↔ c = 86 := ⟨fun e => UInt8.toNat_inj.1 (by rw [e]; rfl), fun e => by rw [e]; rfl⟩
      simp only [e1, e2]
theorem wl_bin {xs : List Int} {cs : List UInt8} (h : ∀ c ∈ cs, mvB c = true) : Bin (wl xs cs) := by
  induction xs generalizing cs with
  | nil => intro f hf; simp [wl] at hf
  | cons x r ih =>
    cases cs with
    | nil => intro f hf; simp [wl] at hf
    | cons c t =>
      intro f hf
      simp [wl] at hf
      rcases hf with rfl | hf
      · have := h c (by simp)
        unfold mvB at this
        simpa using this
      · exact ih (fun c hc => h c (by simp [hc])) f hf
theorem vf_bal {xs : List Int} {cs : List UInt8} (h : vfB xs (bts cs) = true) : balT cs = 2 ∨ balT cs = -2 := by
  rw [vfB_down] at h
  obtain ⟨h1, h2, h3⟩ := h
  rw [bts_list] at h2 h3
  rw [fvB_iff] at h2
  rw [← mvS_wl (xs := xs) (by have := h2.1; omega)]
  exact h3.mvS (wl_bin h2.2)

/-- the angles of a word -/
def xsOf : List Ltr → List Int
  | [] => []
  | .F _ :: r => xsOf r
  | .X x :: r => x :: xsOf r
theorem xsOf_app (u v : List Ltr) : xsOf (u ++ v) = xsOf u ++ xsOf v := by
  induction u with
  | nil => rfl
  | cons y r ih => cases y <;> simp [xsOf, ih]
theorem xsOf_wl {xs : List Int} {cs : List UInt8} (h : xs.length = cs.length) : xsOf (wl xs cs) = xs := by
  induction xs generalizing cs with
  | nil => cases cs <;> rfl
  | cons x r ih =>
    cases cs with
    | nil => simp at h
    | cons c t => simp [wl, xsOf, ih (show r.length = t.length by simpa using h)]
theorem Rot.sum {l m : List Ltr} (h : Rot l m) : (xsOf l).sum = (xsOf m).sum := by
  obtain ⟨u, v, rfl, rfl⟩ := h
  rw [xsOf_app, xsOf_app, sum_app, sum_app]; omega
theorem Rot.xlen {l m : List Ltr} (h : Rot l m) : (xsOf l).length = (xsOf m).length := by
  obtain ⟨u, v, rfl, rfl⟩ := h
  rw [xsOf_app, xsOf_app, List.length_append, List.length_append]; omega
theorem Rot.alt {l m : List Ltr} (h : Rot l m) (he : (xsOf l).length % 2 = 0) : altS (xsOf l) = 0 ↔ altS (xsOf m) = 0 := by
  obtain ⟨u, v, rfl, rfl⟩ := h
  rw [xsOf_app] at he ⊢
  rw [xsOf_app]
  exact (altS_turn he).symm
theorem Step.alt {l m : List Ltr} (h : Step l m) (he : (xsOf l).length % 2 = 0) : (altS (xsOf l) = 0 ↔ altS (xsOf m) = 0) ∧ (xsOf m).length % 2 = 0 := by
  obtain ⟨a, g, b, hh, c, rest, r1, r2, hne, hmin, hlen⟩ := h
  have l1 := r1.xlen
  have l2 := r2.xlen
  simp only [xsOf, List.length_cons] at l1 l2
  refine ⟨?_, by omega⟩
  rw [r1.alt he, ← r2.alt (by simp only [xsOf, List.length_cons]; omega)]
  simp only [xsOf, altS]
  rw [show a - (b - (c - altS (xsOf rest))) = a + c - b - altS (xsOf rest) from by omega]
theorem Step.sums {l m : List Ltr} (h : Step l m) : ∃ b, Ltr.X b ∈ l ∧ (∀ x, Ltr.X x ∈ l → b ≤ x) ∧ (∀ x, Ltr.X x ∈ m → b ≤ x) ∧ (xsOf l).sum = (xsOf m).sum + 2 * b := by
  obtain ⟨a, g, b, hh, c, rest, r1, r2, hne, hmin, hlen⟩ := h
  refine ⟨b, (r1.mem _).2 (by simp), hmin, ?_, ?_⟩
  · intro x hx
    have := (r2.mem _).2 hx
    simp at this
    rcases this with e | e
    · have h1 := hmin a ((r1.mem _).2 (by simp))
      have h2 := hmin c ((r1.mem _).2 (by simp))
      omega
    · exact hmin x ((r1.mem _).2 (by simp [e]))
  · rw [r1.sum, ← r2.sum]
    simp only [xsOf, List.sum_cons]
    omega
end Go.Proofs.Ytnccpifdajcejaa
