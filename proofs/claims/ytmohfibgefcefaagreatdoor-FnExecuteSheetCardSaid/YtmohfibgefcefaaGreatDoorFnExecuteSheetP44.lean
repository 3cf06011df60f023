/- Rings of folds and angles as words that are read round: a crimp takes two folds and three angles for one angle; any order of crimps ends alike. No program, no condition. What the ring of linked creases folds down to is what its word, read round, comes down to. No condition but sizes. -/
import Derived.Test.YtmohfibgefcefaaGreatDoorPlain
import Derived.Test.YtmohfibgefcefaaGreatDoorFnExecuteSheetP43
namespace Go.Proofs.YtmohfibgefcefaaGreatDoor

inductive Ltr where
  | F (f : Nat)
  | X (x : Int)

/-- two words are one, read round -/
def Rot (l m : List Ltr) : Prop := ∃ u v, l = u ++ v ∧ m = v ++ u
theorem Rot.refl (l : List Ltr) : Rot l l := ⟨[], l, rfl, by simp⟩
theorem Rot.symm {l m : List Ltr} (h : Rot l m) : Rot m l := by
  obtain ⟨u, v, rfl, rfl⟩ := h
  exact ⟨v, u, rfl, rfl⟩
theorem Rot.trans {l m k : List Ltr} (h : Rot l m) (h' : Rot m k) : Rot l k := by
  obtain ⟨u, v, rfl, rfl⟩ := h
  obtain ⟨s, t, e, rfl⟩ := h'
  rcases List.append_eq_append_iff.1 e with ⟨a, rfl, rfl⟩ | ⟨c, rfl, rfl⟩
  · exact ⟨a, t ++ v, by simp, by simp⟩
  · exact ⟨u ++ s, c, by simp, by simp⟩
theorem Rot.len {l m : List Ltr} (h : Rot l m) : l.length = m.length := by
  obtain ⟨u, v, rfl, rfl⟩ := h
  simp [Nat.add_comm]
theorem Rot.mem {l m : List Ltr} (h : Rot l m) (y : Ltr) : y ∈ l ↔ y ∈ m := by
  obtain ⟨u, v, rfl, rfl⟩ := h
  simp [or_comm]
theorem Rot.rev {l m : List Ltr} (h : Rot l m) : Rot l.reverse m.reverse := by
  obtain ⟨u, v, rfl, rfl⟩ := h
  exact ⟨v.reverse, u.reverse, by simp, by simp⟩
theorem rot_mk (u v : List Ltr) : Rot (u ++ v) (v ++ u) := ⟨u, v, rfl, rfl⟩

def Step (l m : List Ltr) : Prop := ∃ (a : Int) (g : Nat) (b : Int) (h : Nat) (c : Int) (rest : List Ltr),
  Rot l (.X a :: .F g :: .X b :: .F h :: .X c :: rest) ∧ Rot (.X (a + c - b) :: rest) m ∧ g ≠ h ∧ (∀ x, .X x ∈ l → b ≤ x) ∧ 3 ≤ rest.length
inductive Down : List Ltr → Prop
  | two (a : Int) (f : Nat) (l : List Ltr) : Rot l [.X a, .F f, .X a, .F f] → Down l
  | step (l m : List Ltr) : Step l m → Down m → Down l
theorem Step.rot_l {l l' m : List Ltr} (h : Step l m) (r : Rot l l') : Step l' m := by
  obtain ⟨a, g, b, hh, c, rest, r1, r2, hne, hmin, hlen⟩ := h
  exact ⟨a, g, b, hh, c, rest, r.symm.trans r1, r2, hne, fun x hx => hmin x ((r.mem _).2 hx), hlen⟩
theorem Step.rot_r {l m m' : List Ltr} (h : Step l m) (r : Rot m m') : Step l m' := by
  obtain ⟨a, g, b, hh, c, rest, r1, r2, hne, hmin, hlen⟩ := h
  exact ⟨a, g, b, hh, c, rest, r1, r2.trans r, hne, hmin, hlen⟩
theorem Down.rot {l m : List Ltr} (h : Down l) (r : Rot l m) : Down m := by
  cases h with
  | two a f _ r' => exact .two a f _ (r.symm.trans r')
  | step _ k s d => exact .step _ k (s.rot_l r) d
theorem Step.len {l m : List Ltr} (h : Step l m) : l.length = m.length + 4 := by
  obtain ⟨a, g, b, hh, c, rest, r1, r2, hne, hmin, hlen⟩ := h
  rw [r1.len, ← r2.len]; simp
theorem Step.len8 {l m : List Ltr} (h : Step l m) : 8 ≤ l.length := by
  obtain ⟨a, g, b, hh, c, rest, r1, r2, hne, hmin, hlen⟩ := h
  rw [r1.len]; simp; omega
/-- folds are of two kinds -/
def Bin (l : List Ltr) : Prop := ∀ f, Ltr.F f ∈ l → f = 77 ∨ f = 86
theorem Bin.rot {l m : List Ltr} (h : Bin l) (r : Rot l m) : Bin m := fun f hf => h f ((r.mem _).2 hf)
theorem Step.bin {l m : List Ltr} (h : Step l m) (hb : Bin l) : Bin m := by
  obtain ⟨a, g, b, hh, c, rest, r1, r2, hne, hmin, hlen⟩ := h
  intro f hf
  have := (r2.mem _).2 hf
  simp at this
  exact hb f ((r1.mem _).2 (by simp [this]))
theorem down_dead {a b : Int} {g h : Nat} (hne : g ≠ h) : ¬ Down [.X a, .F g, .X b, .F h] := by
  intro d
  cases d with
  | two c f _ r =>
    have h1 := (r.mem (.F g)).1 (by simp)
    have h2 := (r.mem (.F h)).1 (by simp)
    simp at h1 h2
    omega
  | step _ m s _ => have := s.len8; simp at this

theorem step_mk {a b c : Int} {g h : Nat} {rest m : List Ltr} {l : List Ltr} (r1 : Rot l (.X a :: .F g :: .X b :: .F h :: .X c :: rest)) (r2 : Rot (.X (a + c - b) :: rest) m) (hne : g ≠ h) (hmin : ∀ x, Ltr.X x ∈ l → b ≤ x) (hlen : 3 ≤ rest.length) : Step l m :=
  ⟨a, g, b, h, c, rest, r1, r2, hne, hmin, hlen⟩

/-- two crimps of one word: their ends are one, or meet in one crimp more, or lead nowhere -/
theorem diamond {l m1 m2 : List Ltr} (s1 : Step l m1) (s2 : Step l m2) (h4 : l.length % 4 = 0) (hb : Bin l) :
    Rot m1 m2 ∨ (∃ k, Step m1 k ∧ Step m2 k) ∨ ¬ Down m1 := by
  obtain ⟨a, g, b, h, c, rest, r1, r2, hne, hmin, hlen⟩ := s1
  obtain ⟨a', g', b', h', c', rest', r1', r2', hne', hmin', hlen'⟩ := s2
  have hl := r1.len
  have hl' := r1'.len
  simp at hl hl'
  have hab : ∀ x, Ltr.X x ∈ (Ltr.X a :: .F g :: .X b :: .F h :: .X c :: rest) → b ≤ x := fun x hx => hmin x ((r1.mem _).2 hx)
  have hab' : ∀ x, Ltr.X x ∈ (Ltr.X a' :: .F g' :: .X b' :: .F h' :: .X c' :: rest') → b' ≤ x := fun x hx => hmin' x ((r1'.mem _).2 hx)
  have hbb : Bin (Ltr.X a :: .F g :: .X b :: .F h :: .X c :: rest) := hb.rot r1
  have hbb' : Bin (Ltr.X a' :: .F g' :: .X b' :: .F h' :: .X c' :: rest') := hb.rot r1'
  have e1 : b' = b := by
    have x1 := hmin b' ((r1'.mem _).2 (by simp))
    have x2 := hmin' b ((r1.mem _).2 (by simp))
    omega
  subst e1
  have ha := hab a (by simp)
  have hc := hab c (by simp)
  have ha' := hab' a' (by simp)
  have hc' := hab' c' (by simp)
  have bg := hbb g (by simp)
  have bh := hbb h (by simp)
  have bg' := hbb' g' (by simp)
  have bh' := hbb' h' (by simp)
  have hR : ∀ x, Ltr.X x ∈ rest → b' ≤ x := fun x hx => hab x (by simp [hx])
  have hR' : ∀ x, Ltr.X x ∈ rest' → b' ≤ x := fun x hx => hab' x (by simp [hx])
  have hM1 : ∀ x, Ltr.X x ∈ m1 → b' ≤ x := by
    intro x hx
    have := (r2.mem _).2 hx
    simp at this
    rcases this with e | e
    · omega
    · exact hR x e
  have hM2 : ∀ x, Ltr.X x ∈ m2 → b' ≤ x := by
    intro x hx
    have := (r2'.mem _).2 hx
    simp at this
    rcases this with e | e
    · omega
    · exact hR' x e
  obtain ⟨p, q, ep, eq⟩ := r1.symm.trans r1'
  match p, ep with
  | [], ep =>
    simp at ep eq
    rw [← ep] at eq
    simp at eq
    obtain ⟨rfl, rfl, rfl, rfl, rfl⟩ := eq
    exact Or.inl (r2.symm.trans r2')
  | [_], ep => simp at ep; obtain ⟨rfl, rfl⟩ := ep; simp at eq
  | [_, _], ep =>
    simp at ep
    obtain ⟨rfl, rfl, rfl⟩ := ep
    match rest, eq, hlen with
    | y1 :: y2 :: r, eq, _ =>
      simp at eq
      obtain ⟨rfl, rfl, rfl, rfl, rfl, rfl⟩ := eq
      left
      refine r2.symm.trans (Rot.trans ?_ r2')
      have e2 : g = h' := by omega
      subst e2
      rw [show a + a' - a' = a from by omega, show a' + c' - a' = c' from by omega]
      exact rot_mk [.X a, .F g] (.X c' :: r)
    | [_], _, hlen => simp at hlen
    | [], _, hlen => simp at hlen
  | [_, _, _], ep => simp at ep; obtain ⟨rfl, rfl, rfl, rfl⟩ := ep; simp at eq
  | [_, _, _, _], ep =>
    simp at ep
    obtain ⟨rfl, rfl, rfl, rfl, rfl⟩ := ep
    match rest, eq, hlen with
    | [y1, y2, y3], eq, _ =>
      simp at eq
      obtain ⟨rfl, rfl, rfl, rfl, _⟩ := eq
      right; right
      intro d
      exact down_dead hne' (d.rot r2.symm)
    | y1 :: y2 :: y3 :: y4 :: r, eq, _ =>
      simp at eq
      obtain ⟨rfl, rfl, rfl, rfl, rfl, rfl⟩ := eq
      have h3 : 3 ≤ r.length := by simp at hl; omega
      right; left
      refine ⟨.X (a + a' - b' + c' - b') :: r, step_mk r2.symm (Rot.refl _) hne' hM1 h3, step_mk (a := a) (g := g) (b := b') (h := h) (c := a' + c' - b') (rest := r) ?_ ?_ hne hM2 h3⟩
      · exact r2'.symm.trans (rot_mk (.X (a' + c' - b') :: r) [.X a, .F g, .X b', .F h])
      · rw [show a + (a' + c' - b') - b' = a + a' - b' + c' - b' from by omega]; exact Rot.refl _
    | [_, _], _, hlen => simp at hlen
    | [_], _, hlen => simp at hlen
    | [], _, hlen => simp at hlen
  | y1 :: y2 :: y3 :: y4 :: y5 :: p', ep =>
    simp at ep
    obtain ⟨rfl, rfl, rfl, rfl, rfl, rfl⟩ := ep
    match q, eq with
    | [], eq =>
      simp at eq
      obtain ⟨rfl, rfl, rfl, rfl, rfl⟩ := eq
      left
      simp only [List.append_nil] at r2
      exact r2.symm.trans r2'
    | [_], eq => simp at eq
    | [_, _], eq =>
      simp at eq
      obtain ⟨rfl, rfl, rfl, rfl, rfl, rfl⟩ := eq
      left
      refine r2.symm.trans (Rot.trans ?_ r2')
      have e2 : g' = h := by omega
      subst e2
      rw [show c' + c - c' = c from by omega, show a' + c' - c' = a' from by omega]
      exact rot_mk (.X c :: p') [.X a', .F g']
    | [_, _, _], eq => simp at eq
    | [_, _, _, _], eq =>
      simp at eq
      obtain ⟨rfl, rfl, rfl, rfl, rfl, rfl⟩ := eq
      have h3 : 3 ≤ p'.length := by simp at hl; omega
      right; left
      refine ⟨.X (a' + (c' + c - b') - b') :: p', step_mk (a := a') (g := g') (b := b') (h := h') (c := c' + c - b') (rest := p') ?_ (Rot.refl _) hne' hM1 h3, step_mk r2'.symm ?_ hne hM2 h3⟩
      · exact r2.symm.trans (rot_mk (.X (c' + c - b') :: p') [.X a', .F g', .X b', .F h'])
      · rw [show a' + c' - b' + c - b' = a' + (c' + c - b') - b' from by omega]; exact Rot.refl _
    | z1 :: z2 :: z3 :: z4 :: z5 :: q', eq =>
      simp at eq
      obtain ⟨rfl, rfl, rfl, rfl, rfl, rfl⟩ := eq
      have h3 : 3 ≤ p'.length + (q'.length + 1) := by simp at hl; omega
      right; left
      refine ⟨.X (a + c - b') :: p' ++ .X (a' + c' - b') :: q', step_mk (a := a') (g := g') (b := b') (h := h') (c := c') (rest := q' ++ .X (a + c - b') :: p') ?_ ?_ hne' hM1 (by simp; omega), step_mk (a := a) (g := g) (b := b') (h := h) (c := c) (rest := p' ++ .X (a' + c' - b') :: q') ?_ (Rot.refl _) hne hM2 (by simp; omega)⟩
      · exact r2.symm.trans (rot_mk (.X (a + c - b') :: p') (.X a' :: .F g' :: .X b' :: .F h' :: .X c' :: q'))
      · exact rot_mk (.X (a' + c' - b') :: q') (.X (a + c - b') :: p')
      · exact r2'.symm.trans (rot_mk (.X (a' + c' - b') :: q') (.X a :: .F g :: .X b' :: .F h :: .X c :: p'))

/-- whatever crimp is done first, the end is the same -/
theorem Down.any {l : List Ltr} (d : Down l) : ∀ {m : List Ltr}, Step l m → l.length % 4 = 0 → Bin l → Down m := by
  induction d with
  | two a f l r => intro m s _ _; have := s.len8; have := r.len; simp at this; omega
  | step l k s d ih =>
    intro m s' h4 hb
    rcases diamond s s' h4 hb with r | ⟨j, sk, sm⟩ | hd
    · exact d.rot r
    · exact .step _ j sm (ih sk (by have := s.len; omega) (s.bin hb))
    · exact absurd d hd
theorem down_iff {l m : List Ltr} (s : Step l m) (h4 : l.length % 4 = 0) (hb : Bin l) : Down l ↔ Down m := ⟨fun d => d.any s h4 hb, fun d => .step _ _ s d⟩

/-- read backwards -/
theorem Step.rev {l m : List Ltr} (h : Step l m) : Step l.reverse m.reverse := by
  obtain ⟨a, g, b, hh, c, rest, r1, r2, hne, hmin, hlen⟩ := h
  refine ⟨c, hh, b, g, a, rest.reverse, r1.rev.trans ?_, Rot.trans ?_ r2.rev, fun e => hne e.symm, fun x hx => hmin x (by simpa using hx), by simpa using hlen⟩
  · have := rot_mk rest.reverse [Ltr.X c, .F hh, .X b, .F g, .X a]
    simpa using this
  · rw [show c + a - b = a + c - b from by omega]
    have := rot_mk [Ltr.X (a + c - b)] rest.reverse
    simpa using this
theorem Down.rev {l : List Ltr} (d : Down l) : Down l.reverse := by
  induction d with
  | two a f l r => exact .two a f _ (r.rev.trans (rot_mk [Ltr.F f] [.X a, .F f, .X a]))
  | step l m s _ ih => exact .step _ _ s.rev ih

/-- folds exchanged -/
def swF (f : Nat) : Nat := if f = 77 then 86 else if f = 86 then 77 else f
theorem swF_ne {f g : Nat} (h : f ≠ g) : swF f ≠ swF g := by
  unfold swF
  split <;> split <;> (try split) <;> (try split) <;> omega
def swL : Ltr → Ltr
  | .F f => .F (swF f)
  | .X x => .X x
theorem Rot.map {l m : List Ltr} (h : Rot l m) (t : Ltr → Ltr) : Rot (l.map t) (m.map t) := by
  obtain ⟨u, v, rfl, rfl⟩ := h
  exact ⟨u.map t, v.map t, by simp, by simp⟩
theorem mem_swL {x : Int} {l : List Ltr} (h : Ltr.X x ∈ l.map swL) : Ltr.X x ∈ l := by
  obtain ⟨y, hy, e⟩ := List.mem_map.1 h
  cases y with
  | F f => simp [swL] at e
  | X z => simp [swL] at e; subst e; exact hy
theorem Step.swap {l m : List Ltr} (h : Step l m) : Step (l.map swL) (m.map swL) := by
  obtain ⟨a, g, b, hh, c, rest, r1, r2, hne, hmin, hlen⟩ := h
  refine ⟨a, swF g, b, swF hh, c, rest.map swL, by simpa [swL] using r1.map swL, by simpa [swL] using r2.map swL, swF_ne hne, fun x hx => hmin x (mem_swL hx), by simpa using hlen⟩
theorem Down.swap {l : List Ltr} (d : Down l) : Down (l.map swL) := by
  induction d with
  | two a f l r => exact .two a (swF f) _ (by simpa [swL] using r.map swL)
  | step l m s _ ih => exact .step _ _ s.swap ih

/-- mountains less valleys -/
def mvS : List Ltr → Int
  | [] => 0
  | .F f :: r => (if f = 77 then 1 else if f = 86 then -1 else 0) + mvS r
  | .X _ :: r => mvS r
theorem mvS_app (u v : List Ltr) : mvS (u ++ v) = mvS u + mvS v := by
  induction u with
  | nil => simp [mvS]
  | cons y r ih => cases y <;> simp [mvS, ih]; omega
theorem Rot.mvS {l m : List Ltr} (h : Rot l m) : mvS l = mvS m := by
  obtain ⟨u, v, rfl, rfl⟩ := h
  rw [mvS_app, mvS_app]; omega
theorem Step.mvS {l m : List Ltr} (h : Step l m) (hb : Bin l) : mvS l = mvS m := by
  obtain ⟨a, g, b, hh, c, rest, r1, r2, hne, hmin, hlen⟩ := h
  have bg := hb.rot r1 g (by simp)
  have bh := hb.rot r1 hh (by simp)
  rw [r1.mvS, ← r2.mvS]
  simp only [Go.Proofs.YtmohfibgefcefaaGreatDoor.mvS]
  rcases bg with rfl | rfl <;> rcases bh with rfl | rfl <;> simp at hne ⊢ <;> omega
theorem Down.mvS {l : List Ltr} (d : Down l) (hb : Bin l) : mvS l = 2 ∨ mvS l = -2 := by
  induction d with
  | two a f l r =>
    have := hb.rot r f (by simp)
    rw [r.mvS]
    rcases this with rfl | rfl <;> simp [Go.Proofs.YtmohfibgefcefaaGreatDoor.mvS]
  | step l m s _ ih => rw [s.mvS hb]; exact ih (s.bin hb)

/-- a ring as functions tell it -/
def seg (x : Nat → Int) (f : Nat → Nat) : Nat → Nat → List Ltr
  | _, 0 => []
  | a, m + 1 => .F (f a) :: .X (x a) :: seg x f (a + 1) m
theorem seg_app (x : Nat → Int) (f : Nat → Nat) (a m k : Nat) : seg x f a (m + k) = seg x f a m ++ seg x f (a + m) k := by
  induction m generalizing a with
  | zero => simp [seg]
  | succ m ih => rw [show m + 1 + k = (m + k) + 1 from by omega, seg, seg, ih, show a + 1 + m = a + (m + 1) from by omega]; rfl
theorem seg_len (x : Nat → Int) (f : Nat → Nat) (a m : Nat) : (seg x f a m).length = 2 * m := by
  induction m generalizing a with
  | zero => rfl
  | succ m ih => rw [seg]; simp [ih]; omega
theorem seg_congr {x x' : Nat → Int} {f f' : Nat → Nat} {a a' m : Nat} (hx : ∀ k, k < m → x (a + k) = x' (a' + k)) (hf : ∀ k, k < m → f (a + k) = f' (a' + k)) : seg x f a m = seg x' f' a' m := by
  induction m generalizing a a' with
  | zero => rfl
  | succ m ih =>
    have h1 := hx 0 (by omega)
    have h2 := hf 0 (by omega)
    rw [Nat.add_zero, Nat.add_zero] at h1 h2
    rw [seg, seg, h1, h2, ih (fun k hk => ?_) (fun k hk => ?_)]
    · have := hx (k + 1) (by omega); rw [show a + 1 + k = a + (k + 1) from by omega, show a' + 1 + k = a' + (k + 1) from by omega]; exact this
    · have := hf (k + 1) (by omega); rw [show a + 1 + k = a + (k + 1) from by omega, show a' + 1 + k = a' + (k + 1) from by omega]; exact this
theorem seg_X {x : Nat → Int} {f : Nat → Nat} {a m : Nat} {y : Int} (h : Ltr.X y ∈ seg x f a m) : ∃ k, k < m ∧ y = x (a + k) := by
  induction m generalizing a with
  | zero => simp [seg] at h
  | succ m ih =>
    simp [seg] at h
    rcases h with h | h
    · exact ⟨0, by omega, by simpa using h⟩
    · obtain ⟨k, hk, e⟩ := ih h
      exact ⟨k + 1, by omega, by rw [e, show a + 1 + k = a + (k + 1) from by omega]⟩
theorem seg_F {x : Nat → Int} {f : Nat → Nat} {a m g : Nat} (h : Ltr.F g ∈ seg x f a m) : ∃ k, k < m ∧ g = f (a + k) := by
  induction m generalizing a with
  | zero => simp [seg] at h
  | succ m ih =>
    simp [seg] at h
    rcases h with h | h
    · exact ⟨0, by omega, by simpa using h⟩
    · obtain ⟨k, hk, e⟩ := ih h
      exact ⟨k + 1, by omega, by rw [e, show a + 1 + k = a + (k + 1) from by omega]⟩
theorem seg_mem {x : Nat → Int} {f : Nat → Nat} {a m k : Nat} (h : k < m) : Ltr.X (x (a + k)) ∈ seg x f a m := by
  induction m generalizing a k with
  | zero => omega
  | succ m ih =>
    cases k with
    | zero => simp [seg]
    | succ k => have := ih (a := a + 1) (k := k) (by omega); rw [show a + 1 + k = a + (k + 1) from by omega] at this; simp [seg, this]
theorem seg_get {x : Nat → Int} {f : Nat → Nat} {a m k : Nat} (h : k < m) : (seg x f a m)[2 * k]? = some (.F (f (a + k))) ∧ (seg x f a m)[2 * k + 1]? = some (.X (x (a + k))) := by
  induction m generalizing a k with
  | zero => omega
  | succ m ih =>
    cases k with
    | zero => exact ⟨rfl, rfl⟩
    | succ k =>
      have := ih (a := a + 1) (k := k) (by omega)
      rw [show a + 1 + k = a + (k + 1) from by omega] at this
      exact this
end Go.Proofs.YtmohfibgefcefaaGreatDoor
namespace Go.Proofs.YtmohfibgefcefaaGreatDoor

theorem crimp_step {n i : Nat} {x : Nat → Int} {f : Nat → Nat} (hi : i < n) (h : allowedB n x f i = true) : Step (seg x f 0 n) (seg (crimpX n x i) (fun k => f (sig n i k)) 0 (n - 2)) := by
  obtain ⟨h4, hne, hmin⟩ := (allowed_iff hi).1 h
  have hX : ∀ y, Ltr.X y ∈ seg x f 0 n → x i ≤ y := by
    intro y hy
    obtain ⟨k, hk, rfl⟩ := seg_X hy
    exact hmin _ (by omega)
  by_cases i0 : i = 0
  · subst i0
    obtain ⟨m, rfl⟩ : ∃ m, n = 2 + (m + 1) := ⟨n - 3, by omega⟩
    have e1 : seg x f 0 (2 + (m + 1)) = (.F (f 0) :: .X (x 0) :: .F (f 1) :: .X (x 1) :: (seg x f 2 m ++ [.F (f (2 + m))])) ++ [.X (x (2 + m))] := by
      rw [seg_app, seg_app]; simp [seg]
    have e2 : seg (crimpX (2 + (m + 1)) x 0) (fun k => f (sig (2 + (m + 1)) 0 k)) 0 (2 + (m + 1) - 2) = [.F (f (2 + m))] ++ (.X (x (2 + m) + x 1 - x 0) :: seg x f 2 m) := by
      rw [show 2 + (m + 1) - 2 = 1 + m from by omega, seg_app]
      simp only [seg, List.cons_append, List.nil_append]
      have g1 : crimpX (2 + (m + 1)) x 0 0 = x (2 + m) + x 1 - x 0 := by
        unfold crimpX
        have hp : prv (2 + (m + 1)) 0 = 2 + m := by unfold prv; rw [if_pos rfl]; omega
        have hn : nxt (2 + (m + 1)) 0 = 1 := by unfold nxt; rw [if_neg (by omega)]
        rw [hp, hn, if_pos (by unfold sig; rw [if_pos rfl, if_pos rfl]; omega)]; omega
      have g2 : sig (2 + (m + 1)) 0 0 = 2 + m := by unfold sig; rw [if_pos rfl, if_pos rfl]; omega
      rw [g1, g2]
      congr 2
      apply seg_congr
      · intro k hk
        have hs : sig (2 + (m + 1)) 0 (0 + 1 + k) = 2 + k := by unfold sig; rw [if_pos rfl, if_neg (by omega)]; omega
        unfold crimpX
        rw [hs, if_neg (by unfold prv; simp; omega)]
      · intro k hk
        show f _ = _
        have hs : sig (2 + (m + 1)) 0 (0 + 1 + k) = 2 + k := by unfold sig; rw [if_pos rfl, if_neg (by omega)]; omega
        rw [hs]
    have hn : nxt (2 + (m + 1)) 0 = 1 := by unfold nxt; rw [if_neg (by omega)]
    rw [hn] at hne
    refine step_mk (a := x (2 + m)) (g := f 0) (b := x 0) (h := f 1) (c := x 1) (rest := seg x f 2 m ++ [.F (f (2 + m))]) ?_ ?_ hne hX (by simp [seg_len]; omega)
    · rw [e1]; exact rot_mk _ _
    · rw [e2]; exact rot_mk (.X (x (2 + m) + x 1 - x 0) :: seg x f 2 m) [.F (f (2 + m))]
  · by_cases i1 : i = n - 1
    · obtain ⟨m, rfl⟩ : ∃ m, n = 1 + (m + 2) := ⟨n - 3, by omega⟩
      have i2 : i = m + 2 := by omega
      subst i2
      have hp : prv (1 + (m + 2)) (m + 2) = 1 + m := by unfold prv; rw [if_neg i0]; omega
      have hn : nxt (1 + (m + 2)) (m + 2) = 0 := by unfold nxt; rw [if_pos (by omega)]
      have e1 : seg x f 0 (1 + (m + 2)) = (.F (f 0) :: .X (x 0) :: (seg x f 1 m ++ [.F (f (1 + m))])) ++ [.X (x (1 + m)), .F (f (m + 2)), .X (x (m + 2))] := by
        rw [seg_app, seg_app]; simp [seg]
        rw [show 1 + m + 1 = m + 2 from by omega]; simp
      have hs0 : sig (1 + (m + 2)) (m + 2) 0 = 1 + m := by unfold sig; rw [if_neg i0, if_pos (by omega), if_pos rfl]; omega
      have hsk : ∀ k, sig (1 + (m + 2)) (m + 2) (1 + k) = 1 + k := by intro k; unfold sig; rw [if_neg i0, if_pos (by omega), if_neg (by omega)]
      have e2 : seg (crimpX (1 + (m + 2)) x (m + 2)) (fun k => f (sig (1 + (m + 2)) (m + 2) k)) 0 (1 + (m + 2) - 2) = [.F (f (1 + m))] ++ (.X (x (1 + m) + x 0 - x (m + 2)) :: seg x f 1 m) := by
        rw [show 1 + (m + 2) - 2 = 1 + m from by omega, seg_app]
        simp only [seg, List.cons_append, List.nil_append]
        have g1 : crimpX (1 + (m + 2)) x (m + 2) 0 = x (1 + m) + x 0 - x (m + 2) := by
          unfold crimpX
          rw [hp, hn, hs0, if_pos rfl]; omega
        rw [g1, hs0]
        congr 2
        apply seg_congr
        · intro k hk
          rw [show 0 + 1 + k = 1 + k from by omega]
          unfold crimpX
          rw [hsk, hp, if_neg (by omega)]
        · intro k hk
          show f _ = _
          rw [show 0 + 1 + k = 1 + k from by omega, hsk]
      rw [hn] at hne
      refine step_mk (a := x (1 + m)) (g := f (m + 2)) (b := x (m + 2)) (h := f 0) (c := x 0) (rest := seg x f 1 m ++ [.F (f (1 + m))]) ?_ ?_ hne hX (by simp [seg_len]; omega)
      · rw [e1]; exact rot_mk _ _
      · rw [e2]; exact rot_mk (.X (x (1 + m) + x 0 - x (m + 2)) :: seg x f 1 m) [.F (f (1 + m))]
    · obtain ⟨p, rfl⟩ : ∃ p, i = p + 1 := ⟨i - 1, by omega⟩
      obtain ⟨m, rfl⟩ : ∃ m, n = p + (3 + m) := ⟨n - p - 3, by omega⟩
      have hp : prv (p + (3 + m)) (p + 1) = p := by unfold prv; rw [if_neg i0]; omega
      have hn : nxt (p + (3 + m)) (p + 1) = p + 2 := by unfold nxt; rw [if_neg (by omega)]
      have e1 : seg x f 0 (p + (3 + m)) = (seg x f 0 p ++ [.F (f p)]) ++ (.X (x p) :: .F (f (p + 1)) :: .X (x (p + 1)) :: .F (f (p + 2)) :: .X (x (p + 2)) :: seg x f (p + 3) m) := by
        rw [seg_app, seg_app]; simp [seg]
      have hsk : ∀ k, k ≤ p → sig (p + (3 + m)) (p + 1) k = k := by intro k hk; unfold sig; rw [if_neg i0, if_neg i1, if_pos (by omega)]
      have hsg : ∀ k, p < k → sig (p + (3 + m)) (p + 1) k = k + 2 := by intro k hk; unfold sig; rw [if_neg i0, if_neg i1, if_neg (by omega)]
      have e2 : seg (crimpX (p + (3 + m)) x (p + 1)) (fun k => f (sig (p + (3 + m)) (p + 1) k)) 0 (p + (3 + m) - 2) = (seg x f 0 p ++ [.F (f p)]) ++ (.X (x p + x (p + 2) - x (p + 1)) :: seg x f (p + 3) m) := by
        rw [show p + (3 + m) - 2 = p + (1 + m) from by omega, seg_app, seg_app, List.append_assoc]
        have s1 : seg (crimpX (p + (3 + m)) x (p + 1)) (fun k => f (sig (p + (3 + m)) (p + 1) k)) 0 p = seg x f 0 p := by
          apply seg_congr
          · intro k hk
            unfold crimpX
            rw [hsk _ (by omega), hp, if_neg (by omega)]
          · intro k hk
            show f _ = _
            rw [hsk _ (by omega)]
        have s2 : seg (crimpX (p + (3 + m)) x (p + 1)) (fun k => f (sig (p + (3 + m)) (p + 1) k)) (0 + p + 1) m = seg x f (p + 3) m := by
          apply seg_congr
          · intro k hk
            unfold crimpX
            rw [hsg _ (by omega), hp, if_neg (by omega)]
            congr 1; omega
          · intro k hk
            show f _ = _
            rw [hsg _ (by omega)]
            congr 1; omega
        rw [s1, s2]
        congr 1
        simp only [seg, Nat.zero_add, List.cons_append, List.nil_append]
        have g1 : crimpX (p + (3 + m)) x (p + 1) p = x p + x (p + 2) - x (p + 1) := by
          unfold crimpX
          rw [hp, hn, hsk _ (Nat.le_refl _), if_pos rfl]; omega
        rw [g1, hsk _ (Nat.le_refl _)]
      rw [hn] at hne
      refine step_mk (a := x p) (g := f (p + 1)) (b := x (p + 1)) (h := f (p + 2)) (c := x (p + 2)) (rest := seg x f (p + 3) m ++ (seg x f 0 p ++ [.F (f p)])) ?_ ?_ hne hX (by simp [seg_len]; omega)
      · rw [e1]; exact rot_mk _ _
      · rw [e2]; exact rot_mk (.X (x p + x (p + 2) - x (p + 1)) :: seg x f (p + 3) m) _

theorem rot_get {l m : List Ltr} (h : Rot l m) (hn : 0 < l.length) : ∃ p, p < l.length ∧ ∀ j, j < l.length → m[j]? = l[(p + j) % l.length]? := by
  obtain ⟨u, v, rfl, rfl⟩ := h
  simp at hn
  by_cases hv : v.length = 0
  · have : v = [] := List.eq_nil_of_length_eq_zero hv
    subst this
    refine ⟨0, by simpa using hn, fun j hj => ?_⟩
    simp at hj
    simp [Nat.mod_eq_of_lt hj]
  · refine ⟨u.length, by simp; omega, fun j hj => ?_⟩
    simp at hj
    by_cases hjv : j < v.length
    · rw [List.getElem?_append_left hjv, List.length_append, Nat.mod_eq_of_lt (by omega), List.getElem?_append_right (by omega)]
      congr 1; omega
    · rw [List.getElem?_append_right (by omega), List.length_append, Nat.mod_eq_sub_mod (by omega), Nat.mod_eq_of_lt (by omega), List.getElem?_append_left (by omega)]
      congr 1; omega
theorem step_allowed {n : Nat} {x : Nat → Int} {f : Nat → Nat} {m : List Ltr} (h : Step (seg x f 0 n) m) : ∃ i, i < n ∧ allowedB n x f i = true := by
  have h8 := h.len8
  rw [seg_len] at h8
  obtain ⟨a, g, b, hh, c, rest, r1, r2, hne, hmin, hlen⟩ := h
  obtain ⟨p, hp, hg⟩ := rot_get r1 (by rw [seg_len]; omega)
  rw [seg_len] at hp hg
  have j0 := hg 0 (by omega)
  have j1 := hg 1 (by omega)
  have j2 := hg 2 (by omega)
  have j3 := hg 3 (by omega)
  simp only [List.getElem?_cons_zero, List.getElem?_cons_succ, Nat.add_zero] at j0 j1 j2 j3
  rw [Nat.mod_eq_of_lt hp] at j0
  have hodd : ∃ k, p = 2 * k + 1 := by
    rcases Nat.mod_two_eq_zero_or_one p with e | e
    · have := (seg_get (x := x) (f := f) (a := 0) (m := n) (k := p / 2) (by omega)).1
      rw [show 2 * (p / 2) = p from by omega] at this
      rw [this] at j0
      cases j0
    · exact ⟨p / 2, by omega⟩
  obtain ⟨k, rfl⟩ := hodd
  have hk : k < n := by omega
  have hni := nxt_lt hk
  have hnn := nxt_lt hni
  have m1 : (2 * k + 1 + 1) % (2 * n) = 2 * nxt n k := by
    unfold nxt; split
    · rw [show 2 * k + 1 + 1 = 2 * n from by omega]; simp
    · rw [Nat.mod_eq_of_lt (by omega)]; omega
  have m2 : (2 * k + 1 + 2) % (2 * n) = 2 * nxt n k + 1 := by
    rw [show 2 * k + 1 + 2 = (2 * k + 1 + 1) + 1 from by omega, Nat.add_mod, m1, Nat.mod_eq_of_lt (show 1 < 2 * n by omega), Nat.mod_eq_of_lt (by omega)]
  have m3 : (2 * k + 1 + 3) % (2 * n) = 2 * nxt n (nxt n k) := by
    rw [show 2 * k + 1 + 3 = (2 * k + 1 + 2) + 1 from by omega, Nat.add_mod, m2, Nat.mod_eq_of_lt (show 1 < 2 * n by omega)]
    generalize nxt n k = y at hni ⊢
    unfold nxt; split
    · rw [show 2 * y + 1 + 1 = 2 * n from by omega]; simp
    · rw [Nat.mod_eq_of_lt (by omega)]; omega
  rw [m1, (seg_get hni).1] at j1
  rw [m2, (seg_get hni).2] at j2
  rw [m3, (seg_get hnn).1] at j3
  simp only [Nat.zero_add, Option.some.injEq, Ltr.F.injEq, Ltr.X.injEq] at j1 j2 j3
  refine ⟨nxt n k, hni, (allowed_iff hni).2 ⟨by omega, by rw [← j1, ← j3]; exact hne, fun q hq => ?_⟩⟩
  rw [← j2]
  have := seg_mem (x := x) (f := f) (a := 0) (m := n) (k := q) hq
  rw [Nat.zero_add] at this
  exact hmin _ this

theorem firstC_some {n i : Nat} {x : Nat → Int} {f : Nat → Nat} (h : firstC n x f = some i) : i < n ∧ allowedB n x f i = true := by
  unfold firstC at h
  have hm : i ∈ (List.range n).filter (allowedB n x f) := List.mem_of_mem_head? h
  rw [List.mem_filter, List.mem_range] at hm
  exact hm
theorem firstC_none {n i : Nat} {x : Nat → Int} {f : Nat → Nat} (h : firstC n x f = none) (hi : i < n) : allowedB n x f i = false := by
  unfold firstC at h
  rw [List.head?_eq_none_iff, List.filter_eq_nil_iff] at h
  simpa using h i (List.mem_range.2 hi)
theorem down_pair {x : Nat → Int} {f : Nat → Nat} : Down (seg x f 0 2) ↔ x 0 = x 1 ∧ f 0 = f 1 := by
  simp only [seg]
  constructor
  · intro d
    cases d with
    | two a g _ r =>
      have h1 := (r.mem (.X (x 0))).1 (by simp)
      have h2 := (r.mem (.X (x 1))).1 (by simp)
      have h3 := (r.mem (.F (f 0))).1 (by simp)
      have h4 := (r.mem (.F (f 1))).1 (by simp)
      simp at h1 h2 h3 h4
      omega
    | step _ m s _ => have := s.len8; simp at this
  · rintro ⟨h1, h2⟩
    rw [← h1, ← h2]
    exact .two (x 0) (f 0) _ (rot_mk [.F (f 0)] [.X (x 0), .F (f 0), .X (x 0)])
theorem sig_bin {n i : Nat} {f : Nat → Nat} (hn : 4 ≤ n) (hi : i < n) (hb : ∀ k, k < n → f k = 77 ∨ f k = 86) : ∀ k, k < n - 2 → f (sig n i k) = 77 ∨ f (sig n i k) = 86 :=
  fun _ hk => hb _ (sig_lt hn hi hk).1
theorem seg_bin {n : Nat} {x : Nat → Int} {f : Nat → Nat} (hb : ∀ k, k < n → f k = 77 ∨ f k = 86) : Bin (seg x f 0 n) := by
  intro g hg
  obtain ⟨k, hk, rfl⟩ := seg_F hg
  exact hb _ (by omega)
theorem foldsN_down : ∀ (g : Nat) {n : Nat} {x : Nat → Int} {f : Nat → Nat}, n % 2 = 0 → 2 ≤ n → n ≤ 2 * g → (∀ k, k < n → f k = 77 ∨ f k = 86) → (foldsN g n x f = true ↔ Down (seg x f 0 n)) := by
  intro g
  induction g with
  | zero => intro n x f _ h2 hg; omega
  | succ g ih =>
    intro n x f he h2 hg hb
    rw [foldsN]
    cases hc : firstC n x f with
    | none =>
      simp only [Bool.and_eq_true, decide_eq_true_eq]
      constructor
      · rintro ⟨rfl, h⟩; exact down_pair.2 h
      · intro d
        have hno : ∀ m, ¬ Step (seg x f 0 n) m := by
          intro m s
          obtain ⟨i, hi, ha⟩ := step_allowed s
          rw [firstC_none hc hi] at ha
          cases ha
        cases hd : d with
        | two a q _ r =>
          have := r.len
          rw [seg_len] at this
          simp at this
          have : n = 2 := by omega
          subst this
          exact ⟨rfl, down_pair.1 d⟩
        | step _ m s _ => exact absurd s (hno m)
    | some i =>
      obtain ⟨hi, ha⟩ := firstC_some hc
      have h4 := ((allowed_iff hi).1 ha).1
      simp only
      rw [ih (by omega) (by omega) (by omega) (sig_bin h4 hi hb)]
      exact (down_iff (crimp_step hi ha) (by rw [seg_len]; omega) (seg_bin hb)).symm

/-- the word of angles and folds -/
def wl : List Int → List UInt8 → List Ltr
  | x :: xs, c :: cs => .F c.toNat :: .X x :: wl xs cs
  | _, _ => []
theorem wl_app {xs ys : List Int} {cs ds : List UInt8} (h : xs.length = cs.length) : wl (xs ++ ys) (cs ++ ds) = wl xs cs ++ wl ys ds := by
  induction xs generalizing cs with
  | nil =>
    cases cs with
    | nil => simp [wl]
    | cons c r => simp at h
  | cons x r ih =>
    cases cs with
    | nil => simp at h
    | cons c r' => simp [wl, ih (by simpa using h)]
theorem seg_wl {x : Nat → Int} {f : Nat → Nat} {a : Nat} {xs : List Int} {cs : List UInt8} (h : xs.length = cs.length) (hx : ∀ k, k < xs.length → x (a + k) = xs.getD k 0) (hf : ∀ k, k < xs.length → f (a + k) = (cs.getD k 0).toNat) : seg x f a xs.length = wl xs cs := by
  induction xs generalizing cs a with
  | nil =>
    cases cs with
    | nil => simp [wl, seg]
    | cons c r => simp at h
  | cons y r ih =>
    cases cs with
    | nil => simp at h
    | cons c r' =>
      have h1 := hx 0 (by simp)
      have h2 := hf 0 (by simp)
      simp at h1 h2
      rw [List.length_cons, seg, wl, h1, h2, ih (by simpa using h)]
      · intro k hk
        have := hx (k + 1) (by simp; omega)
        rw [show a + 1 + k = a + (k + 1) from by omega, this]; simp
      · intro k hk
        have := hf (k + 1) (by simp; omega)
        rw [show a + 1 + k = a + (k + 1) from by omega, this]; simp
theorem size_list (s : ByteArray) : s.data.toList.length = s.size := Array.length_toList
theorem seg_word {xs : List Int} {s : ByteArray} (h : xs.length = s.size) : seg (angleAt xs) (byteAt s) 0 xs.length = wl xs s.data.toList :=
  seg_wl (h.trans (size_list s).symm) (fun k _ => by rw [Nat.zero_add]; rfl) (fun k _ => by rw [Nat.zero_add]; rfl)
theorem fvB_bin {cs : List UInt8} {n : Int} (h : fvB cs n = true) : ∀ c ∈ cs, c = 77 ∨ c = 86 := by
  unfold fvB at h
  simp only [Bool.and_eq_true, List.all_eq_true] at h
  intro c hc
  have := h.2 c hc
  unfold mvB at this
  simp only [Bool.or_eq_true, decide_eq_true_eq] at this
  rcases this with e | e
  · exact Or.inl (UInt8.toNat_inj.1 (by rw [e]; rfl))
  · exact Or.inr (UInt8.toNat_inj.1 (by rw [e]; rfl))
theorem fvB_at {s : ByteArray} {n : Nat} (h : fvB s.data.toList n = true) : ∀ k, k < n → byteAt s k = 77 ∨ byteAt s k = 86 := by
  intro k hk
  have hs := fvB_size h
  have hm : s.data.toList.getD k 0 ∈ s.data.toList := by
    have hk' : k < s.data.toList.length := by rw [size_list, hs]; exact hk
    rw [List.getD_eq_getElem?_getD, List.getElem?_eq_getElem hk']
    simp
  rcases fvB_bin h _ hm with e | e
  · left; unfold byteAt; rw [e]; rfl
  · right; unfold byteAt; rw [e]; rfl
theorem ffB_down {xs : List Int} {s : ByteArray} (he : xs.length % 2 = 0) (h2 : 2 ≤ xs.length) (h10 : xs.length ≤ 20) (hf : fvB s.data.toList xs.length = true) : ffB xs s = true ↔ Down (wl xs s.data.toList) := by
  unfold ffB
  rw [foldsN_down 10 he h2 (by omega) (fvB_at hf), seg_word (fvB_size hf).symm]
theorem vfB_down {xs : List Int} {s : ByteArray} : vfB xs s = true ↔ acB xs = true ∧ fvB s.data.toList xs.length = true ∧ Down (wl xs s.data.toList) := by
  unfold vfB
  simp only [Bool.and_eq_true]
  constructor
  · rintro ⟨⟨h1, h2⟩, h3⟩
    have ha := h1
    unfold acB at ha
    simp only [Bool.and_eq_true] at ha
    obtain ⟨e, l2, l10, _⟩ := avB_parts ha.1
    exact ⟨h1, h2, (ffB_down e l2 (by omega) h2).1 h3⟩
  · rintro ⟨h1, h2, h3⟩
    have ha := h1
    unfold acB at ha
    simp only [Bool.and_eq_true] at ha
    obtain ⟨e, l2, l10, _⟩ := avB_parts ha.1
    exact ⟨⟨h1, h2⟩, (ffB_down e l2 (by omega) h2).2 h3⟩
theorem rfB_down {xs : List Int} {s : ByteArray} : rfB xs s = true ↔ rvB xs s.data.toList = true ∧ Down (wl xs s.data.toList) := by
  unfold rfB
  simp only [Bool.and_eq_true]
  have key : rvB xs s.data.toList = true → (ffB xs s = true ↔ Down (wl xs s.data.toList)) := by
    intro h
    unfold rvB at h
    simp only [Bool.and_eq_true, decide_eq_true_eq] at h
    obtain ⟨⟨⟨h1, h2⟩, h3⟩, _⟩ := h
    obtain ⟨l1, l6, _⟩ := lvB_parts h1
    exact ffB_down h2 (by omega) (by omega) h3
  constructor
  · rintro ⟨h1, h2⟩; exact ⟨h1, (key h1).1 h2⟩
  · rintro ⟨h1, h2⟩; exact ⟨h1, (key h1).2 h2⟩
end Go.Proofs.YtmohfibgefcefaaGreatDoor
