/- Rings of folds and angles as words that are read round: a crimp takes two folds and three angles for one angle; any order of crimps ends alike. No program, no condition. -/
import Derived.Test.YtngpeehjjcgmmaaPlain
namespace Go.Proofs.Ytngpeehjjcgmmaa

inductive Ltr where
  | F (f : Nat)
  | X (x : Int)

/-- two words are one, read round -/
def Rot (l m : List Ltr) : Prop := ∃ u v, l = u ++ v ∧ m = v ++ u
theorem Rot.refl (l : List Ltr) : Rot l l := ⟨[], l, rfl, by simp⟩
theorem Rot.symm {l m : List Ltr} (h : Rot l m) : Rot m l := by
  obtain ⟨u, v, rfl, rfl⟩ := h
  exact ⟨v, u, rfl, rfl⟩
theorem Rot.trans {l m k : List Ltr} (h : Rot l m) (h' : Rot m k) : Rot l k := by
  obtain ⟨u, v, rfl, rfl⟩ := h
  obtain ⟨s, t, e, rfl⟩ := h'
  rcases List.append_eq_append_iff.1 e with ⟨a, rfl, rfl⟩ | ⟨c, rfl, rfl⟩
  · exact ⟨a, t ++ v, by simp, by simp⟩
  · exact ⟨u ++ s, c, by simp, by simp⟩
theorem Rot.len {l m : List Ltr} (h : Rot l m) : l.length = m.length := by
  obtain ⟨u, v, rfl, rfl⟩ := h
  simp [Nat.add_comm]
theorem Rot.mem {l m : List Ltr} (h : Rot l m) (y : Ltr) : y ∈ l ↔ y ∈ m := by
  obtain ⟨u, v, rfl, rfl⟩ := h
  simp [or_comm]
theorem Rot.rev {l m : List Ltr} (h : Rot l m) : Rot l.reverse m.reverse := by
  obtain ⟨u, v, rfl, rfl⟩ := h
  exact ⟨v.reverse, u.reverse, by simp, by simp⟩
theorem rot_mk (u v : List Ltr) : Rot (u ++ v) (v ++ u) := ⟨u, v, rfl, rfl⟩

def Step (l m : List Ltr) : Prop := ∃ (a : Int) (g : Nat) (b : Int) (h : Nat) (c : Int) (rest : List Ltr),
  Rot l (.X a :: .F g :: .X b :: .F h :: .X c :: rest) ∧ Rot (.X (a + c - b) :: rest) m ∧ g ≠ h ∧ (∀ x, .X x ∈ l → b ≤ x) ∧ 3 ≤ rest.length
inductive Down : List Ltr → Prop
  | two (a : Int) (f : Nat) (l : List Ltr) : Rot l [.X a, .F f, .X a, .F f] → Down l
  | step (l m : List Ltr) : Step l m → Down m → Down l
theorem Step.rot_l {l l' m : List Ltr} (h : Step l m) (r : Rot l l') : Step l' m := by
  obtain ⟨a, g, b, hh, c, rest, r1, r2, hne, hmin, hlen⟩ := h
  exact ⟨a, g, b, hh, c, rest, r.symm.trans r1, r2, hne, fun x hx => hmin x ((r.mem _).2 hx), hlen⟩
theorem Step.rot_r {l m m' : List Ltr} (h : Step l m) (r : Rot m m') : Step l m' := by
  obtain ⟨a, g, b, hh, c, rest, r1, r2, hne, hmin, hlen⟩ := h
  exact ⟨a, g, b, hh, c, rest, r1, r2.trans r, hne, hmin, hlen⟩
theorem Down.rot {l m : List Ltr} (h : Down l) (r : Rot l m) : Down m := by
  cases h with
  | two a f _ r' => exact .two a f _ (r.symm.trans r')
  | step _ k s d => exact .step _ k (s.rot_l r) d
theorem Step.len {l m : List Ltr} (h : Step l m) : l.length = m.length + 4 := by
  obtain ⟨a, g, b, hh, c, rest, r1, r2, hne, hmin, hlen⟩ := h
  rw [r1.len, ← r2.len]; simp
theorem Step.len8 {l m : List Ltr} (h : Step l m) : 8 ≤ l.length := by
  obtain ⟨a, g, b, hh, c, rest, r1, r2, hne, hmin, hlen⟩ := h
  rw [r1.len]; simp; omega
/-- folds are of two kinds -/
def Bin (l : List Ltr) : Prop := ∀ f, Ltr.F f ∈ l → f = 77 ∨ f = 86
theorem Bin.rot {l m : List Ltr} (h : Bin l) (r : Rot l m) : Bin m := fun f hf => h f ((r.mem _).2 hf)
theorem Step.bin {l m : List Ltr} (h : Step l m) (hb : Bin l) : Bin m := by
  obtain ⟨a, g, b, hh, c, rest, r1, r2, hne, hmin, hlen⟩ := h
  intro f hf
  have := (r2.mem _).2 hf
  simp at this
  exact hb f ((r1.mem _).2 (by simp [this]))
theorem down_dead {a b : Int} {g h : Nat} (hne : g ≠ h) : ¬ Down [.X a, .F g, .X b, .F h] := by
  intro d
  cases d with
  | two c f _ r =>
    have h1 := (r.mem (.F g)).1 (by simp)
    have h2 := (r.mem (.F h)).1 (by simp)
    simp at h1 h2
    omega
  | step _ m s _ => have := s.len8; simp at this

theorem step_mk {a b c : Int} {g h : Nat} {rest m : List Ltr} {l : List Ltr} (r1 : Rot l (.X a :: .F g :: .X b :: .F h :: .X c :: rest)) (r2 : Rot (.X (a + c - b) :: rest) m) (hne : g ≠ h) (hmin : ∀ x, Ltr.X x ∈ l → b ≤ x) (hlen : 3 ≤ rest.length) : Step l m :=
  ⟨a, g, b, h, c, rest, r1, r2, hne, hmin, hlen⟩

/-- two crimps of one word: their ends are one, or meet in one crimp more, or lead nowhere -/
theorem diamond {l m1 m2 : List Ltr} (s1 : Step l m1) (s2 : Step l m2) (h4 : l.length % 4 = 0) (hb : Bin l) :
    Rot m1 m2 ∨ (∃ k, Step m1 k ∧ Step m2 k) ∨ ¬ Down m1 := by
  obtain ⟨a, g, b, h, c, rest, r1, r2, hne, hmin, hlen⟩ := s1
  obtain ⟨a', g', b', h', c', rest', r1', r2', hne', hmin', hlen'⟩ := s2
  have hl := r1.len
  have hl' := r1'.len
  simp at hl hl'
  have hab : ∀ x, Ltr.X x ∈ (Ltr.X a :: .F g :: .X b :: .F h :: .X c :: rest) → b ≤ x := fun x hx => hmin x ((r1.mem _).2 hx)
  have hab' : ∀ x, Ltr.X x ∈ (Ltr.X a' :: .F g' :: .X b' :: .F h' :: .X c' :: rest') → b' ≤ x := fun x hx => hmin' x ((r1'.mem _).2 hx)
  have hbb : Bin (Ltr.X a :: .F g :: .X b :: .F h :: .X c :: rest) := hb.rot r1
  have hbb' : Bin (Ltr.X a' :: .F g' :: .X b' :: .F h' :: .X c' :: rest') := hb.rot r1'
  have e1 : b' = b := by
    have x1 := hmin b' ((r1'.mem _).2 (by simp))
    have x2 := hmin' b ((r1.mem _).2 (by simp))
    omega
  subst e1
  have ha := hab a (by simp)
  have hc := hab c (by simp)
  have ha' := hab' a' (by simp)
  have hc' := hab' c' (by simp)
  have bg := hbb g (by simp)
  have bh := hbb h (by simp)
  have bg' := hbb' g' (by simp)
  have bh' := hbb' h' (by simp)
  have hR : ∀ x, Ltr.X x ∈ rest → b' ≤ x := fun x hx => hab x (by simp [hx])
  have hR' : ∀ x, Ltr.X x ∈ rest' → b' ≤ x := fun x hx => hab' x (by simp [hx])
  have hM1 : ∀ x, Ltr.X x ∈ m1 → b' ≤ x := by
    intro x hx
    have := (r2.mem _).2 hx
    simp at this
    rcases this with e | e
    · omega
    · exact hR x e
  have hM2 : ∀ x, Ltr.X x ∈ m2 → b' ≤ x := by
    intro x hx
    have := (r2'.mem _).2 hx
    simp at this
    rcases this with e | e
    · omega
    · exact hR' x e
  obtain ⟨p, q, ep, eq⟩ := r1.symm.trans r1'
  match p, ep with
  | [], ep =>
    simp at ep eq
    rw [← ep] at eq
    simp at eq
    obtain ⟨rfl, rfl, rfl, rfl, rfl⟩ := eq
    exact Or.inl (r2.symm.trans r2')
  | [_], ep => simp at ep; obtain ⟨rfl, rfl⟩ := ep; simp at eq
  | [_, _], ep =>
    simp at ep
    obtain ⟨rfl, rfl, rfl⟩ := ep
    match rest, eq, hlen with
    | y1 :: y2 :: r, eq, _ =>
      simp at eq
      obtain ⟨rfl, rfl, rfl, rfl, rfl, rfl⟩ := eq
      left
      refine r2.symm.trans (Rot.trans ?_ r2')
      have e2 : g = h' := by omega
      subst e2
      rw [show a + a' - a' = a from by omega, show a' + c' - a' = c' from by omega]
      exact rot_mk [.X a, .F g] (.X c' :: r)
    | [_], _, hlen => simp at hlen
    | [], _, hlen => simp at hlen
  | [_, _, _], ep => simp at ep; obtain ⟨rfl, rfl, rfl, rfl⟩ := ep; simp at eq
  | [_, _, _, _], ep =>
    simp at ep
    obtain ⟨rfl, rfl, rfl, rfl, rfl⟩ := ep
    match rest, eq, hlen with
    | [y1, y2, y3], eq, _ =>
      simp at eq
      obtain ⟨rfl, rfl, rfl, rfl, _⟩ := eq
      right; right
      intro d
      exact down_dead hne' (d.rot r2.symm)
    | y1 :: y2 :: y3 :: y4 :: r, eq, _ =>
      simp at eq
      obtain ⟨rfl, rfl, rfl, rfl, rfl, rfl⟩ := eq
      have h3 : 3 ≤ r.length := by simp at hl; omega
      right; left
      refine ⟨.X (a + a' - b' + c' - b') :: r, step_mk r2.symm (Rot.refl _) hne' hM1 h3, step_mk (a := a) (g := g) (b := b') (h := h) (c := a' + c' - b') (rest := r) ?_ ?_ hne hM2 h3⟩
      · exact r2'.symm.trans (rot_mk (.X (a' + c' - b') :: r) [.X a, .F g, .X b', .F h])
      · rw [show a + (a' + c' - b') - b' = a + a' - b' + c' - b' from by omega]; exact Rot.refl _
    | [_, _], _, hlen => simp at hlen
    | [_], _, hlen => simp at hlen
    | [], _, hlen => simp at hlen
  | y1 :: y2 :: y3 :: y4 :: y5 :: p', ep =>
    simp at ep
    obtain ⟨rfl, rfl, rfl, rfl, rfl, rfl⟩ := ep
    match q, eq with
    | [], eq =>
      simp at eq
      obtain ⟨rfl, rfl, rfl, rfl, rfl⟩ := eq
      left
      simp only [List.append_nil] at r2
      exact r2.symm.trans r2'
    | [_], eq => simp at eq
    | [_, _], eq =>
      simp at eq
      obtain ⟨rfl, rfl, rfl, rfl, rfl, rfl⟩ := eq
      left
      refine r2.symm.trans (Rot.trans ?_ r2')
      have e2 : g' = h := by omega
      subst e2
      rw [show c' + c - c' = c from by omega, show a' + c' - c' = a' from by omega]
      exact rot_mk (.X c :: p') [.X a', .F g']
    | [_, _, _], eq => simp at eq
    | [_, _, _, _], eq =>
      simp at eq
      obtain ⟨rfl, rfl, rfl, rfl, rfl, rfl⟩ := eq
      have h3 : 3 ≤ p'.length := by simp at hl; omega
      right; left
      refine ⟨.X (a' + (c' + c - b') - b') :: p', step_mk (a := a') (g := g') (b := b') (h := h') (c := c' + c - b') (rest := p') ?_ (Rot.refl _) hne' hM1 h3, step_mk r2'.symm ?_ hne hM2 h3⟩
      · exact r2.symm.trans (rot_mk (.X (c' + c - b') :: p') [.X a', .F g', .X b', .F h'])
      · rw [show a' + c' - b' + c - b' = a' + (c' + c - b') - b' from by omega]; exact Rot.refl _
    | z1 :: z2 :: z3 :: z4 :: z5 :: q', eq =>
      simp at eq
      obtain ⟨rfl, rfl, rfl, rfl, rfl, rfl⟩ := eq
      have h3 : 3 ≤ p'.length + (q'.length + 1) := by simp at hl; omega
      right; left
      refine ⟨.X (a + c - b') :: p' ++ .X (a' + c' - b') :: q', step_mk (a := a') (g := g') (b := b') (h := h') (c := c') (rest := q' ++ .X (a + c - b') :: p') ?_ ?_ hne' hM1 (by simp; omega), step_mk (a := a) (g := g) (b := b') (h := h) (c := c) (rest := p' ++ .X (a' + c' - b') :: q') ?_ (Rot.refl _) hne hM2 (by simp; omega)⟩
      · exact r2.symm.trans (rot_mk (.X (a + c - b') :: p') (.X a' :: .F g' :: .X b' :: .F h' :: .X c' :: q'))
      · exact rot_mk (.X (a' + c' - b') :: q') (.X (a + c - b') :: p')
      · exact r2'.symm.trans (rot_mk (.X (a' + c' - b') :: q') (.X a :: .F g :: .X b' :: .F h :: .X c :: p'))

/-- whatever crimp is done first, the end is the same -/
theorem Down.any {l : List Ltr} (d : Down l) : ∀ {m : List Ltr}, Step l m → l.length % 4 = 0 → Bin l → Down m := by
  induction d with
  | two a f l r => intro m s _ _; have := s.len8; have := r.len; simp at this; omega
  | step l k s d ih =>
    intro m s' h4 hb
    rcases diamond s s' h4 hb with r | ⟨j, sk, sm⟩ | hd
    · exact d.rot r
    · exact .step _ j sm (ih sk (by have := s.len; omega) (s.bin hb))
    · exact absurd d hd
theorem down_iff {l m : List Ltr} (s : Step l m) (h4 : l.length % 4 = 0) (hb : Bin l) : Down l ↔ Down m := ⟨fun d => d.any s h4 hb, fun d => .step _ _ s d⟩

/-- read backwards -/
theorem Step.rev {l m : List Ltr} (h : Step l m) : Step l.reverse m.reverse := by
  obtain ⟨a, g, b, hh, c, rest, r1, r2, hne, hmin, hlen⟩ := h
  refine ⟨c, hh, b, g, a, rest.reverse, r1.rev.trans ?_, Rot.trans ?_ r2.rev, fun e => hne e.symm, fun x hx => hmin x (by simpa using hx), by simpa using hlen⟩
  · have := rot_mk rest.reverse [Ltr.X c, .F hh, .X b, .F g, .X a]
    simpa using this
  · rw [show c + a - b = a + c - b from by omega]
    have := rot_mk [Ltr.X (a + c - b)] rest.reverse
    simpa using this
theorem Down.rev {l : List Ltr} (d : Down l) : Down l.reverse := by
  induction d with
  | two a f l r => exact .two a f _ (r.rev.trans (rot_mk [Ltr.F f] [.X a, .F f, .X a]))
  | step l m s _ ih => exact .step _ _ s.rev ih

/-- folds exchanged -/
def swF (f : Nat) : Nat := if f = 77 then 86 else if f = 86 then 77 else f
theorem swF_ne {f g : Nat} (h : f ≠ g) : swF f ≠ swF g := by
  unfold swF
  split <;> split <;> (try split) <;> (try split) <;> omega
def swL : Ltr → Ltr
  | .F f => .F (swF f)
  | .X x => .X x
theorem Rot.map {l m : List Ltr} (h : Rot l m) (t : Ltr → Ltr) : Rot (l.map t) (m.map t) := by
  obtain ⟨u, v, rfl, rfl⟩ := h
  exact ⟨u.map t, v.map t, by simp, by simp⟩
theorem mem_swL {x : Int} {l : List Ltr} (h : Ltr.X x ∈ l.map swL) : Ltr.X x ∈ l := by
  obtain ⟨y, hy, e⟩ := List.mem_map.1 h
  cases y with
  | F f => simp [swL] at e
  | X z => simp [swL] at e; subst e; exact hy
theorem Step.swap {l m : List Ltr} (h : Step l m) : Step (l.map swL) (m.map swL) := by
  obtain ⟨a, g, b, hh, c, rest, r1, r2, hne, hmin, hlen⟩ := h
  refine ⟨a, swF g, b, swF hh, c, rest.map swL, by simpa [swL] using r1.map swL, by simpa [swL] using r2.map swL, swF_ne hne, fun x hx => hmin x (mem_swL hx), by simpa using hlen⟩
theorem Down.swap {l : List Ltr} (d : Down l) : Down (l.map swL) := by
  induction d with
  | two a f l r => exact .two a (swF f) _ (by simpa [swL] using r.map swL)
  | step l m s _ ih => exact .step _ _ s.swap ih

/-- mountains less valleys -/
def mvS : List Ltr → Int
  | [] => 0
  | .F f :: r => (if f = 77 then 1 else if f = 86 then -1 else 0) + mvS r
  | .X _ :: r => mvS r
theorem mvS_app (u v : List Ltr) : mvS (u ++ v) = mvS u + mvS v := by
  induction u with
  | nil => simp [mvS]
  | cons y r ih => cases y <;> simp [mvS, ih]; omega
theorem Rot.mvS {l m : List Ltr} (h : Rot l m) : mvS l = mvS m := by
  obtain ⟨u, v, rfl, rfl⟩ := h
  rw [mvS_app, mvS_app]; omega
theorem Step.mvS {l m : List Ltr} (h : Step l m) (hb : Bin l) : mvS l = mvS m := by
  obtain ⟨a, g, b, hh, c, rest, r1, r2, hne, hmin, hlen⟩ := h
  have bg := hb.rot r1 g (by simp)
  have bh := hb.rot r1 hh (by simp)
  rw [r1.mvS, ← r2.mvS]
  simp only [Go.Proofs.Ytngpeehjjcgmmaa.mvS]
  rcases bg with rfl | rfl <;> rcases bh with rfl | rfl <;> simp at hne ⊢ <;> omega
theorem Down.mvS {l : List Ltr} (d : Down l) (hb : Bin l) : mvS l = 2 ∨ mvS l = -2 := by
  induction d with
  | two a f l r =>
    have := hb.rot r f (by simp)
    rw [r.mvS]
    rcases this with rfl | rfl <;> simp [Go.Proofs.Ytngpeehjjcgmmaa.mvS]
  | step l m s _ ih => rw [s.mvS hb]; exact ih (s.bin hb)

/-- a ring as functions tell it -/
def seg (x : Nat → Int) (f : Nat → Nat) : Nat → Nat → List Ltr
  | _, 0 => []
  | a, m + 1 => .F (f a) :: .X (x a) :: seg x f (a + 1) m
theorem seg_app (x : Nat → Int) (f : Nat → Nat) (a m k : Nat) : seg x f a (m + k) = seg x f a m ++ seg x f (a + m) k := by
  induction m generalizing a with
  | zero => simp [seg]
  | succ m ih => rw [show m + 1 + k = (m + k) + 1 from by omega, seg, seg, ih, show a + 1 + m = a + (m + 1) from by omega]; rfl
theorem seg_len (x : Nat → Int) (f : Nat → Nat) (a m : Nat) : (seg x f a m).length = 2 * m := by
  induction m generalizing a with
  | zero => rfl
  | succ m ih => rw [seg]; simp [ih]; omega
theorem seg_congr {x x' : Nat → Int} {f f' : Nat → Nat} {a a' m : Nat} (hx : ∀ k, k < m → x (a + k) = x' (a' + k)) (hf : ∀ k, k < m → f (a + k) = f' (a' + k)) : seg x f a m = seg x' f' a' m := by
  induction m generalizing a a' with
  | zero => rfl
  | succ m ih =>
    have h1 := hx 0 (by omega)
    have h2 := hf 0 (by omega)
    rw [Nat.add_zero, Nat.add_zero] at h1 h2
    rw [seg, seg, h1, h2, ih (fun k hk => ?_) (fun k hk => ?_)]
    · have := hx (k + 1) (by omega); rw [show a + 1 + k = a + (k + 1) from by omega, show a' + 1 + k = a' + (k + 1) from by omega]; exact this
    · have := hf (k + 1) (by omega); rw [show a + 1 + k = a + (k + 1) from by omega, show a' + 1 + k = a' + (k + 1) from by omega]; exact this
theorem seg_X {x : Nat → Int} {f : Nat → Nat} {a m : Nat} {y : Int} (h : Ltr.X y ∈ seg x f a m) : ∃ k, k < m ∧ y = x (a + k) := by
  induction m generalizing a with
  | zero => simp [seg] at h
  | succ m ih =>
    simp [seg] at h
    rcases h with h | h
    · exact ⟨0, by omega, by simpa using h⟩
    · obtain ⟨k, hk, e⟩ := ih h
      exact ⟨k + 1, by omega, by rw [e, show a + 1 + k = a + (k + 1) from by omega]⟩
theorem seg_F {x : Nat → Int} {f : Nat → Nat} {a m g : Nat} (h : Ltr.F g ∈ seg x f a m) : ∃ k, k < m ∧ g = f (a + k) := by
  induction m generalizing a with
  | zero => simp [seg] at h
  | succ m ih =>
    simp [seg] at h
    rcases h with h | h
    · exact ⟨0, by omega, by simpa using h⟩
    · obtain ⟨k, hk, e⟩ := ih h
      exact ⟨k + 1, by omega, by rw [e, show a + 1 + k = a + (k + 1) from by omega]⟩
theorem seg_mem {x : Nat → Int} {f : Nat → Nat} {a m k : Nat} (h : k < m) : Ltr.X (x (a + k)) ∈ seg x f a m := by
  induction m generalizing a k with
  | zero => omega
  | succ m ih =>
    cases k with
    | zero => simp [seg]
    | succ k => have := ih (a := a + 1) (k := k) (by omega); rw [show a + 1 + k = a + (k + 1) from by omega] at this; simp [seg, this]
theorem seg_get {x : Nat → Int} {f : Nat → Nat} {a m k : Nat} (h : k < m) : (seg x f a m)[2 * k]? = some (.F (f (a + k))) ∧ (seg x f a m)[2 * k + 1]? = some (.X (x (a + k))) := by
  induction m generalizing a k with
  | zero => omega
  | succ m ih =>
    cases k with
    | zero => exact ⟨rfl, rfl⟩
    | succ k =>
      have := ih (a := a + 1) (k := k) (by omega)
      rw [show a + 1 + k = a + (k + 1) from by omega] at this
      exact this
end Go.Proofs.Ytngpeehjjcgmmaa
