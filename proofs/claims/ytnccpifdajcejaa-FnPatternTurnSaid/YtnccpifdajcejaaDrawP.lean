/- The drawn patterns: 'l92Closing', 'l92Pattern'. No condition but sizes. -/
import Derived.Test.YtnccpifdajcejaaDrawB
import Derived.Test.YtnccpifdajcejaaPushV
import Derived.Test.YtnccpifdajcejaaPatK
import Derived.Test.YtnccpifdajcejaaVertB
namespace Go.Proofs.Ytnccpifdajcejaa
open Go.RowKit

theorem AwayF.low {w : World} {H H' r : Nat} {A : Option Addr} {xs : List Int} (h : AwayF w H r A xs) (hH : H' ≤ H) : AwayF w H' r A xs := fun hn => by
  obtain ⟨b, off, e, h0, h1, h2, h3⟩ := h hn
  exact ⟨b, off, e, Nat.le_trans hH h0, h1, h2, h3⟩
/-- a slice of integers as a value, its cells in blocks from H on, none of them q -/
def IntsG (w : World) (H : Nat) (q : Option Nat) (V : Value) (xs : List Int) : Prop :=
  ∃ A c, V = .slice A xs.length c ∧ (xs ≠ [] → ∃ b off, A = some ⟨b, off, none⟩ ∧ H ≤ b ∧ some b ≠ q ∧ b < w.heap.size ∧ ∀ k x, xs[k]? = some x → w.cell? ⟨b, off + k, none⟩ = some (.int .i64 x)) ∧ xs.length ≤ c ∧ c ≤ maxLen
theorem IntsG.to {w w' : World} {H : Nat} {q q' : Option Nat} {V : Value} {xs : List Int} (h : IntsG w H q V xs) (hs : w.heap.size ≤ w'.heap.size) (hk : ∀ b, H ≤ b → some b ≠ q → b < w.heap.size → w'.heap[b]? = w.heap[b]?) (hq : ∀ b, H ≤ b → some b ≠ q → b < w.heap.size → some b ≠ q') : IntsG w' H q' V xs := by
  obtain ⟨A, c, e, hA, h1, h2⟩ := h
  refine ⟨A, c, e, fun hn => ?_, h1, h2⟩
  obtain ⟨b, off, e2, h0, hb, hlt, hc⟩ := hA hn
  exact ⟨b, off, e2, h0, hq b h0 hb hlt, Nat.lt_of_lt_of_le hlt hs, fun k x hx => (World.cell?_of_block (a := ⟨b, off + k, none⟩) (hk b h0 hb hlt)).trans (hc k x hx)⟩
theorem IntsG.intsV {w : World} {H : Nat} {q : Option Nat} {V : Value} {xs : List Int} (h : IntsG w H q V xs) : IntsV w V xs := by
  obtain ⟨A, c, e, hA, h1, h2⟩ := h
  exact ⟨A, c, e, fun hn => by obtain ⟨b, off, e2, _, _, hb, hc⟩ := hA hn; exact ⟨b, off, e2, hb, hc⟩, h1, h2⟩
theorem IntsG.of_awayF {w : World} {H r : Nat} {q : Option Nat} {A : Option Addr} {c : Nat} {xs : List Int} (h : AwayF w H r A xs) (h1 : xs.length ≤ c) (h2 : c ≤ maxLen) (hq : ∀ g, q = some g → g < H) : IntsG w H q (.slice A xs.length c) xs := by
  refine ⟨A, c, rfl, fun hn => ?_, h1, h2⟩
  obtain ⟨b, off, e, h0, _, hb, hc⟩ := h hn
  exact ⟨b, off, e, h0, fun e2 => by have := hq b e2.symm; omega, hb, hc⟩
theorem IntsG.low {w : World} {H H' : Nat} {q : Option Nat} {V : Value} {xs : List Int} (h : IntsG w H q V xs) (hH : H' ≤ H) : IntsG w H' q V xs := by
  obtain ⟨A, c, e, hA, h1, h2⟩ := h
  exact ⟨A, c, e, fun hn => by obtain ⟨b, off, e2, h0, h3⟩ := hA hn; exact ⟨b, off, e2, Nat.le_trans hH h0, h3⟩, h1, h2⟩
theorem IntsG.of_own {w : World} {H : Nat} {q : Option Nat} {V : Value} {xs : List Int} (h : Own w H V xs) (hq : V.ownBlock ≠ q) : IntsG w H q V xs := by
  obtain ⟨A, c, e, hI, h1, h2⟩ := h.form
  refine ⟨A, c, e, fun hn => ?_, h1, h2⟩
  obtain ⟨b, off, eA, hb, hc⟩ := hI hn
  rw [e, eA] at hq
  have hlo := (h.lt b (by rw [e, eA]; rfl)).1
  exact ⟨b, off, eA, hlo, hq, hb, hc⟩
/-- the drawn vertices in their row's cells -/
def RowG (w : World) (H : Nat) (q : Option Nat) (vs : List Vx) (L : List Value) : Prop :=
  L.length = vs.length * 2 ∧ ∀ j v, vs[j]? = some v → (2 ≤ v.1.length ∧ v.1.length ≤ 4 ∧ v.2.length = v.1.length) ∧ ∃ U V, L[j * 2]? = some U ∧ L[j * 2 + 1]? = some V ∧ IntsG w H q U v.1 ∧ Own w H V v.2 ∧ V.ownBlock ≠ q
theorem RowG.nil (w : World) (H : Nat) (q : Option Nat) : RowG w H q [] [] := ⟨rfl, fun j v hj => by simp at hj⟩
theorem RowG.to {w w' : World} {H : Nat} {q : Option Nat} {vs : List Vx} {L : List Value} (h : RowG w H q vs L) (row : Option Nat) (hg : w.grownBy w' row) (hr : ∀ b, row = some b → b < H) : RowG w' H q vs L := by
  refine ⟨h.1, fun j v hj => ?_⟩
  obtain ⟨h1, U, V, e1, e2, i1, o2, n2⟩ := h.2 j v hj
  refine ⟨h1, U, V, e1, e2, i1.to hg.size (fun b hb _ hlt => hg.block b hlt (fun e => by have := hr b e.symm; omega)) (fun b _ hb _ => hb), o2.kept hg ?_, n2⟩
  cases hv : V.ownBlock with
  | none => exact Or.inl rfl
  | some b =>
    right
    intro e
    have h3 := hr b e.symm
    have h4 := (o2.lt b hv).1
    omega
theorem RowG.below {w w' : World} {H : Nat} {q : Option Nat} {vs : List Vx} {L : List Value} (h : RowG w H q vs L) (hb : Below w.heap.size w w') : RowG w' H q vs L :=
  h.to none ⟨hb.os, hb.tape, hb.output, hb.size, fun i hi _ => hb.block i hi⟩ (fun _ e => by cases e)
theorem RowG.push {w w' : World} {H : Nat} {q q' : Option Nat} {vs : List Vx} {L : List Value} {U V : Value} {xs cs : List Int} (h : RowG w H q vs L) (h2 : 2 ≤ xs.length) (h4 : xs.length ≤ 4) (hl : cs.length = xs.length) (hU : IntsG w H q U xs) (hV : Own w H V cs) (hVq : V.ownBlock ≠ q)
    (hg : w.grownBy w' q) (hm : q' = q ∨ ∀ g, q' = some g → w.heap.size ≤ g) : RowG w' H q' (vs ++ [(xs, cs)]) (L ++ [U, V]) := by
  have mv : ∀ X ys, IntsG w H q X ys → IntsG w' H q' X ys := fun X ys hi => hi.to hg.size (fun b _ hb hlt => hg.block b hlt hb) (fun b _ hb hlt => by
    rcases hm with e | e
    · rw [e]; exact hb
    · intro e2; have := e b e2.symm; omega)
  have mo : ∀ (X : Value) (ys : List Int), ys ≠ [] → Own w H X ys → X.ownBlock ≠ q → Own w' H X ys ∧ X.ownBlock ≠ q' := fun X ys hne ho hx => by
    refine ⟨ho.kept hg (Or.inr hx), ?_⟩
    rcases hm with e | e
    · rw [e]; exact hx
    · intro e2
      cases hX : X.ownBlock with
      | none =>
        obtain ⟨g, _, e3, _⟩ := World.ownsRow.form ho (List.length_pos_iff.2 hne)
        rw [e3] at hX; cases hX
      | some g =>
        have h1 := (ho.lt g hX).2
        have h2 := e g (by rw [← e2, hX])
        omega
  have hL := h.1
  refine ⟨by simp [hL]; omega, fun j v hj => ?_⟩
  by_cases hlt : j < vs.length
  · rw [List.getElem?_append_left hlt] at hj
    obtain ⟨h1, X, Y, e1, e2, i1, o2, n2⟩ := h.2 j v hj
    obtain ⟨m1, m2⟩ := mo Y v.2 (by intro e; rw [e] at h1; simp at h1; omega) o2 n2
    exact ⟨h1, X, Y, by rw [List.getElem?_append_left (by omega)]; exact e1, by rw [List.getElem?_append_left (by omega)]; exact e2, mv _ _ i1, m1, m2⟩
  · have hje : j = vs.length := by
      have := (List.getElem?_eq_some_iff.1 hj).1
      simp at this; omega
    subst hje
    rw [List.getElem?_append_right (Nat.le_refl _), Nat.sub_self] at hj
    have hv : v = (xs, cs) := by simpa using hj.symm
    subst hv
    obtain ⟨m1, m2⟩ := mo V cs (by intro e; rw [e] at hl; simp at hl; omega) hV hVq
    refine ⟨⟨h2, h4, hl⟩, U, V, ?_, ?_, mv _ _ hU, m1, m2⟩
    · rw [List.getElem?_append_right (by omega), show vs.length * 2 - L.length = 0 from by omega]; rfl
    · rw [List.getElem?_append_right (by omega), show vs.length * 2 + 1 - L.length = 1 from by omega]; rfl
/-- vertices in memory, all of it in blocks from H on -/
def VertsF (w : World) (H : Nat) (A : Option Addr) (vs : List Vx) : Prop :=
  vs ≠ [] → ∃ b off, A = some ⟨b, off, none⟩ ∧ H ≤ b ∧ b < w.heap.size ∧ ∀ k v, vs[k]? = some v → ∃ U V, w.cell? ⟨b, off + k * 2, none⟩ = some U ∧ w.cell? ⟨b, off + k * 2 + 1, none⟩ = some V ∧ IntsG w H none U v.1 ∧ IntsG w H none V v.2
theorem VertsF.verts {w : World} {H : Nat} {A : Option Addr} {vs : List Vx} (h : VertsF w H A vs) : Verts w A vs := by
  intro hn
  obtain ⟨b, off, e, _, hb, hc⟩ := h hn
  refine ⟨b, off, e, hb, fun k v hk => ?_⟩
  obtain ⟨U, V, h1, h2, h3, h4⟩ := hc k v hk
  exact ⟨U, V, h1, h2, h3.intsV, h4.intsV⟩
theorem VertsF.to {w w' : World} {H : Nat} {A : Option Addr} {vs : List Vx} (h : VertsF w H A vs) (row : Option Nat) (hg : w.grownBy w' row) (hr : ∀ b, row = some b → b < H) : VertsF w' H A vs := by
  intro hn
  obtain ⟨b, off, e, hH, hb, hc⟩ := h hn
  have hbl : w'.heap[b]? = w.heap[b]? := hg.block b hb (fun e => by have := hr b e.symm; omega)
  have hi : ∀ X xs, IntsG w H none X xs → IntsG w' H none X xs := fun X xs hx => hx.to hg.size (fun b hb _ hlt => hg.block b hlt (fun e => by have := hr b e.symm; omega)) (fun b _ hb _ => hb)
  refine ⟨b, off, e, hH, Nat.lt_of_lt_of_le hb hg.size, fun k v hk => ?_⟩
  obtain ⟨U, V, h1, h2, h3, h4⟩ := hc k v hk
  exact ⟨U, V, (World.cell?_of_block (a := ⟨b, off + k * 2, none⟩) hbl).trans h1, (World.cell?_of_block (a := ⟨b, off + k * 2 + 1, none⟩) hbl).trans h2, hi _ _ h3, hi _ _ h4⟩
theorem VertsF.below {w w' : World} {H : Nat} {A : Option Addr} {vs : List Vx} (h : VertsF w H A vs) (hb : Below w.heap.size w w') : VertsF w' H A vs :=
  h.to none ⟨hb.os, hb.tape, hb.output, hb.size, fun i hi _ => hb.block i hi⟩ (fun _ e => by cases e)
theorem RowG.vertsF {w : World} {H g n c : Nat} {vs : List Vx} {L : List Value} (h : RowG w H (some g) vs L) (ho : OwnX w H (.slice (some ⟨g, 0, none⟩) n c) n L) (hn : vs.length = n) : VertsF w H (some ⟨g, 0, none⟩) vs := by
  intro hne
  have hlt := ho.lt g rfl
  refine ⟨g, 0, rfl, hlt.1, hlt.2, fun k v hk => ?_⟩
  have hkl : k < vs.length := (List.getElem?_eq_some_iff.1 hk).1
  obtain ⟨_, U, V, e1, e2, i1, o2, n2⟩ := h.2 k v hk
  refine ⟨U, V, ?_, ?_, i1.to (Nat.le_refl _) (fun _ _ _ _ => rfl) (fun _ _ _ _ e => by cases e), (IntsG.of_own o2 n2).to (Nat.le_refl _) (fun _ _ _ _ => rfl) (fun _ _ _ _ e => by cases e)⟩
  · rw [Nat.zero_add, ho.cellAt (k * 2) (by omega), e1]
  · rw [Nat.zero_add, ho.cellAt (k * 2 + 1) (by omega), e2]
theorem list_of {α : Type} {P : Nat → α → Prop} (n : Nat) (h : ∀ k, k < n → ∃ v, P k v) : ∃ l : List α, l.length = n ∧ ∀ k v, l[k]? = some v → P k v := by
  induction n with
  | zero => exact ⟨[], rfl, fun k v hk => by simp at hk⟩
  | succ n ih =>
    obtain ⟨l, hl, hp⟩ := ih fun k hk => h k (by omega)
    obtain ⟨v, hv⟩ := h n (by omega)
    refine ⟨l ++ [v], by simp [hl], fun k u hk => ?_⟩
    by_cases hlt : k < l.length
    · rw [List.getElem?_append_left hlt] at hk; exact hp k u hk
    · have hke : k = l.length := by
        have := (List.getElem?_eq_some_iff.1 hk).1
        simp at this; omega
      subst hke
      rw [List.getElem?_append_right (Nat.le_refl _), Nat.sub_self] at hk
      have : u = v := by simpa using hk.symm
      rw [this, hl]; exact hv
/-- behind a number stored somewhere: other numbers perhaps, as many as before -/
theorem IntsG.some_ {w : World} {H : Nat} {q : Option Nat} {V : Value} {xs : List Int} (h : IntsG w H q V xs) (g i : Nat) (z : Int) : ∃ ys : List Int, ys.length = xs.length ∧ IntsG (w.setCell ⟨g, i, none⟩ (.int .i64 z)) H q V ys := by
  obtain ⟨A, c, e, hA, h1, h2⟩ := h
  by_cases hn : xs = []
  · exact ⟨[], by rw [hn], A, c, by rw [e, hn], fun h => absurd rfl h, by simp, h2⟩
  · obtain ⟨b, off, e2, h0, hb, hlt, hc⟩ := hA hn
    by_cases hbg : b = g ∧ off ≤ i
    · obtain ⟨rfl, hoi⟩ := hbg
      refine ⟨xs.set (i - off) z, by simp, A, c, by rw [e]; simp, fun _ => ⟨b, off, e2, h0, hb, by simpa using hlt, fun k x hk => ?_⟩, by simpa using h1, h2⟩
      rw [List.getElem?_set] at hk
      by_cases hki : i - off = k
      · subst hki
        rw [if_pos rfl] at hk
        by_cases hl : i - off < xs.length
        · rw [if_pos hl] at hk
          cases hk
          have hce := hc (i - off) _ (List.getElem?_eq_getElem hl)
          rw [show off + (i - off) = i from by omega] at hce ⊢
          exact World.cell?_setCell_same w _ _ hce
        · rw [if_neg hl] at hk; cases hk
      · rw [if_neg hki] at hk
        exact (World.cell?_setCell_other w ⟨b, i, none⟩ ⟨b, off + k, none⟩ _ (by intro e; injection e with _ e; omega)).trans (hc k x hk)
    · refine ⟨xs, rfl, A, c, e, fun _ => ⟨b, off, e2, h0, hb, by simpa using hlt, fun k x hk => ?_⟩, h1, h2⟩
      exact (World.cell?_setCell_other w ⟨g, i, none⟩ ⟨b, off + k, none⟩ _ (by intro e; injection e with e1 e3; apply hbg; omega)).trans (hc k x hk)

theorem RowG.someV {w : World} {H gR n c g i : Nat} {z : Int} {vs : List Vx} {L : List Value} (h : RowG w H (some gR) vs L) (ho : OwnX w H (.slice (some ⟨gR, 0, none⟩) n c) n L) (hn : vs.length = n) (hg : g ≠ gR) :
    ∃ vs' : List Vx, vs'.length = n ∧ VertsF (w.setCell ⟨g, i, none⟩ (.int .i64 z)) H (some ⟨gR, 0, none⟩) vs' ∧ ∀ v ∈ vs', v.1.length ≤ 4 ∧ v.2.length ≤ 4 := by
  have hlt := ho.lt gR rfl
  obtain ⟨vs', hl, hp⟩ := list_of (P := fun k (v : Vx) => (v.1.length ≤ 4 ∧ v.2.length ≤ 4) ∧ ∃ U V, (w.setCell ⟨g, i, none⟩ (.int .i64 z)).cell? ⟨gR, 0 + k * 2, none⟩ = some U ∧ (w.setCell ⟨g, i, none⟩ (.int .i64 z)).cell? ⟨gR, 0 + k * 2 + 1, none⟩ = some V ∧ IntsG (w.setCell ⟨g, i, none⟩ (.int .i64 z)) H none U v.1 ∧ IntsG (w.setCell ⟨g, i, none⟩ (.int .i64 z)) H none V v.2) n (by
    intro k hk
    obtain ⟨⟨l2, l4, ll⟩, U, V, e1, e2, i1, o2, n2⟩ := h.2 k vs[k] (List.getElem?_eq_getElem (by omega))
    obtain ⟨ys, y1, y2⟩ := i1.some_ g i z
    obtain ⟨zs, z1, z2⟩ := (IntsG.of_own o2 n2).some_ g i z
    refine ⟨(ys, zs), ⟨by show ys.length ≤ 4; omega, by show zs.length ≤ 4; omega⟩, U, V, ?_, ?_, y2.to (Nat.le_refl _) (fun _ _ _ _ => rfl) (fun _ _ _ _ e => by cases e), z2.to (Nat.le_refl _) (fun _ _ _ _ => rfl) (fun _ _ _ _ e => by cases e)⟩
    · rw [World.cell?_setCell_far w ⟨g, i, none⟩ ⟨gR, 0 + k * 2, none⟩ _ hg, Nat.zero_add, ho.cellAt (k * 2) (by omega), e1]
    · rw [World.cell?_setCell_far w ⟨g, i, none⟩ ⟨gR, 0 + k * 2 + 1, none⟩ _ hg, Nat.zero_add, ho.cellAt (k * 2 + 1) (by omega), e2])
  refine ⟨vs', hl, fun _ => ⟨gR, 0, rfl, hlt.1, by simpa using hlt.2, fun k v hk => (hp k v hk).2⟩, fun v hv => ?_⟩
  obtain ⟨k, hk, rfl⟩ := List.getElem_of_mem hv
  exact (hp k _ (List.getElem?_eq_getElem hk)).1
theorem RowG.setU {w : World} {H gR n c : Nat} {vs : List Vx} {L : List Value} {U' : Value} {ys : List Int} (h : RowG w H (some gR) vs L) (ho : OwnX w H (.slice (some ⟨gR, 0, none⟩) n c) n L) (hn : vs.length = n) (h0 : 0 < n) (hU : IntsG w H (some gR) U' ys) (hy : ys.length ≤ 4) :
    ∃ vs' : List Vx, vs'.length = n ∧ VertsF (w.setCell ⟨gR, 0, none⟩ U') H (some ⟨gR, 0, none⟩) vs' ∧ ∀ v ∈ vs', v.1.length ≤ 4 ∧ v.2.length ≤ 4 := by
  have hlt := ho.lt gR rfl
  have st := ho.stored 0 U'
  have hL := ho.1
  have mv : ∀ X xs, IntsG w H (some gR) X xs → IntsG (w.setCell ⟨gR, 0, none⟩ U') H none X xs := fun X xs hi => hi.to st.2.size (fun b _ hb hl => st.2.block b hl hb) (fun _ _ _ _ e => by cases e)
  obtain ⟨vs', hl, hp⟩ := list_of (P := fun k (v : Vx) => (v.1.length ≤ 4 ∧ v.2.length ≤ 4) ∧ ∃ U V, (w.setCell ⟨gR, 0, none⟩ U').cell? ⟨gR, 0 + k * 2, none⟩ = some U ∧ (w.setCell ⟨gR, 0, none⟩ U').cell? ⟨gR, 0 + k * 2 + 1, none⟩ = some V ∧ IntsG (w.setCell ⟨gR, 0, none⟩ U') H none U v.1 ∧ IntsG (w.setCell ⟨gR, 0, none⟩ U') H none V v.2) n (by
    intro k hk
    obtain ⟨⟨l2, l4, ll⟩, U, V, e1, e2, i1, o2, n2⟩ := h.2 k vs[k] (List.getElem?_eq_getElem (by omega))
    have i2 := IntsG.of_own o2 n2
    by_cases hk0 : k = 0
    · subst hk0
      refine ⟨(ys, vs[0].2), ⟨hy, by show vs[0].2.length ≤ 4; omega⟩, U', V, ?_, ?_, mv _ _ hU, mv _ _ i2⟩
      · have := st.1.cellAt 0 (by omega)
        rw [List.getElem?_set_self (by omega)] at this
        exact this
      · have := st.1.cellAt 1 (by omega)
        rw [List.getElem?_set_ne (by omega)] at this
        exact this.trans e2
    · refine ⟨vs[k], ⟨l4, by omega⟩, U, V, ?_, ?_, mv _ _ i1, mv _ _ i2⟩
      · have := st.1.cellAt (k * 2) (by omega)
        rw [List.getElem?_set_ne (by omega)] at this
        rw [Nat.zero_add]; exact this.trans e1
      · have := st.1.cellAt (k * 2 + 1) (by omega)
        rw [List.getElem?_set_ne (by omega)] at this
        rw [Nat.zero_add]; exact this.trans e2)
  refine ⟨vs', hl, fun _ => ⟨gR, 0, rfl, hlt.1, by simpa using hlt.2, fun k v hk => (hp k v hk).2⟩, fun v hv => ?_⟩
  obtain ⟨k, hk, rfl⟩ := List.getElem_of_mem hv
  exact (hp k _ (List.getElem?_eq_getElem hk)).1
theorem RowG.lens {w : World} {H : Nat} {q : Option Nat} {vs : List Vx} {L : List Value} (h : RowG w H q vs L) : ∀ v ∈ vs, v.1.length ≤ 4 ∧ v.2.length ≤ 4 := by
  intro v hv
  obtain ⟨k, hk, rfl⟩ := List.getElem_of_mem hv
  have := (h.2 k _ (List.getElem?_eq_getElem hk)).1
  omega

theorem own_ne_row {w : World} {B : Nat} {V : Value} {xs : List Int} {q : Option Nat} (h : Own w B V xs) (hn : xs ≠ []) (hq : ∀ g, q = some g → g < B) : V.ownBlock ≠ q := by
  obtain ⟨g, c, e, h1, _⟩ := World.ownsRow.form h (List.length_pos_iff.2 hn)
  subst e
  intro e
  have := hq g e.symm
  omega
/-- a drawn list of angles -/
def ClosR (w : World) (r : Nat) (A : Option Addr) (cap : Nat) (bs : List UInt8) (q : Nat) (e : Ending) (w' : World) : Prop :=
  ∃ (B : Option Addr) (xs : List Int) (c q' : Nat), e = .returned (.slice B xs.length c) ∧ AwayF w' w.heap.size r B xs ∧ xs.length ≤ c ∧ c ≤ maxLen ∧ 2 ≤ xs.length ∧ xs.length ≤ 4 ∧ q' ≤ q + 400 ∧ Rd w' r A cap bs q' ∧ w.grownBy w' (some r)
set_option maxHeartbeats 1000000 in
theorem spec_l92Closing (w : World) (r : Nat) (A : Option Addr) (cap : Nat) (bs : List UInt8) (q : Nat) (h : Rd w r A cap bs q) (hq : q ≤ 600000) :
    Calls Try.prog 72 #[ptr r, .int .i64 4] w (ClosR w r A cap bs q) := by
  have hr := h.blk.lt
  go_enter Try.func72, Try.ntmps72
  go_wp2_with fail
  go_loopg [5, 6] 7 (fun g s5 s6 wr => ∃ (j q' : Nat), s6 = s6 ∧ j ≤ 6 ∧ s5 = .int .i64 j ∧ 6 - j < g ∧ q' ≤ q + 60 * j ∧ Rd wr r A cap bs q' ∧ w.grownBy wr (some r))
  case atStart => exact ⟨0, q, rfl, by omega, rfl, by omega, by omega, h, World.grownBy.refl w _⟩
  case round =>
    obtain ⟨j, q', _, hj, rfl, hg, hq', R, G⟩ := hrel
    cases gk with
    | zero => omega
    | succ g =>
    have hz := G.size
    by_cases hlt : j < 6
    · have dl : decide ((j : Int) < 6) = true := by simp; omega
      go_wp2_with fail
      refine (spec_l91AnglesF wr r A cap bs q' 4 R (by omega) (by omega) (by omega)).mono ?_
      rintro e w2 ⟨B, xs, c, q2, rfl, hA, hc, hcm, hxm, hSm, hq2, R2, G2⟩
      have HA := Lib.hid hA
      have hI := hA.away.ints
      have G3 := G.trans G2
      clear hA hSm R G G2
      go_wp2_with fail
      refine (spec_AnglesCloses B c xs w2 hI (by unfold maxLen; omega)).mono ?_
      rintro e w' ⟨rfl, rfl⟩
      cases ha : acB xs with
      | false =>
        clear ha
        go_wp2_with fail
        go_roundg g
        case measure => omega
        case rel => exact ⟨j + 1, q2, trivial, by omega, by go_num, by omega, by omega, R2, G3⟩
      | true =>
        have hl2 : 2 ≤ xs.length := by
          unfold acB at ha
          simp only [Bool.and_eq_true] at ha
          have := avB_parts ha.1
          omega
        clear ha
        go_wp2_with fail
        go_ret
        exact ⟨B, xs, c, q2, rfl, HA.out.low hz, hc, hcm, hl2, hxm, by omega, R2, G3⟩
    · have dl : decide ((j : Int) < 6) = false := by simp; omega
      have hb : Blk (wr.alloc (.cells #[.int .i64 90, .int .i64 90, .int .i64 90, .int .i64 90] 3)) wr.heap.size 3 #[.int .i64 90, .int .i64 90, .int .i64 90, .int .i64 90] := Blk.new wr _ _
      have HBk := Lib.hid hb
      clear hb
      go_wp2_with fail
      go_ret
      refine ⟨_, [90, 90, 90, 90], 4, q', rfl, ?_, by simp, by unfold maxLen; omega, by simp, by simp, by omega, R.far _, G.trans (grown_alloc _ _ _)⟩
      intro _
      refine ⟨wr.heap.size, 0, rfl, hz, by omega, by simp, fun k x hk => ?_⟩
      rw [Nat.zero_add, HBk.out.cell]
      match k, hk with
      | 0, hk => cases hk; rfl
      | 1, hk => cases hk; rfl
      | 2, hk => cases hk; rfl
      | 3, hk => cases hk; rfl
theorem grown_of_alloc {w w' : World} {o : Obj} {n : Nat} {row : Option Nat} (h : ((w.alloc o).drewN n).grownBy w' row) : w.grownBy w' row :=
  (grown_alloc w o row).trans ⟨h.os, h.tape, h.output, h.size, h.block⟩
/-- a drawn list of vertices -/
def PatR (w : World) (r : Nat) (A : Option Addr) (cap : Nat) (bs : List UInt8) (q : Nat) (e : Ending) (w' : World) : Prop :=
  ∃ (B : Option Addr) (vs : List Vx) (c q' : Nat), e = .returned (.slice B vs.length c) ∧ VertsF w' w.heap.size B vs ∧ vs.length ≤ 2 ∧ vs.length ≤ c ∧ c ≤ maxLen ∧ (∀ v ∈ vs, v.1.length ≤ 4 ∧ v.2.length ≤ 4) ∧ q' ≤ q + 1000 ∧ Rd w' r A cap bs q' ∧ w.grownBy w' (some r)
theorem Rd.row {w w' : World} {r : Nat} {A : Option Addr} {cap : Nat} {bs : List UInt8} {q : Nat} {row : Option Nat} (h : Rd w r A cap bs q) (hg : w.grownBy w' row) (hr : ∀ g, row = some g → r < g) : Rd w' r A cap bs q :=
  h.below (B := r + 1) ((Below.refl (r + 1) w).grown hg h.blk.lt (fun g e => hr g e)) (Nat.lt_succ_self r)
theorem grown_row {w w1 w2 : World} {r : Nat} {row : Option Nat} (h : w.grownBy w1 (some r)) (hg : w1.grownBy w2 row) (hr : ∀ g, row = some g → w.heap.size ≤ g) : w.grownBy w2 (some r) :=
  ⟨hg.os.trans h.os, hg.tape.trans h.tape, hg.output.trans h.output, Nat.le_trans h.size hg.size, fun k hk hne => (hg.block k (Nat.lt_of_lt_of_le hk h.size) (fun e => by have := hr k e.symm; omega)).trans (h.block k hk hne)⟩

set_option maxHeartbeats 4000000 in
set_option maxRecDepth 100000 in
theorem spec_l92Pattern (w : World) (r : Nat) (A : Option Addr) (cap : Nat) (bs : List UInt8) (q : Nat) (h : Rd w r A cap bs q) (hq : q ≤ 500000) :
    Calls Try.prog 46 #[ptr r] w (PatR w r A cap bs q) := by
  have hr := h.blk.lt
  obtain ⟨w1, hw1⟩ : ∃ w1, w1 = w.alloc (.cells #[] 30) := ⟨_, rfl⟩
  have R1 : Rd w1 r A cap bs q := by rw [hw1]; exact h.far _
  have HO1 : Hid (OwnX w1 w.heap.size (.slice (some ⟨w.heap.size, 0, none⟩) 0 0) 0 []) := by show OwnX _ _ _ _ _; rw [hw1]; exact World.ownsRow_lit w #[] 0 (Nat.le_refl _) (by unfold maxLen; omega) rfl
  have G1 : w.grownBy w1 (some r) := by rw [hw1]; exact grown_alloc _ _ _
  have HW1 := Lib.hid hw1
  clear hw1
  go_enter Try.func46, Try.ntmps46
  go_wp2_with fail
  rw [← HW1.out]
  refine (spec_pick w1 r A cap bs q 2 R1 (by omega) (by omega)).mono ?_
  rintro e w2 ⟨n0, rfl, hn0, R2, g2⟩
  have HO2 : Hid (OwnX w2 w.heap.size (.slice (some ⟨w.heap.size, 0, none⟩) 0 0) 0 []) := HO1.out.kept g2 (Or.inr (by intro e; have e' : w.heap.size = r := Option.some.inj e; omega))
  have G2 := G1.trans g2
  clear HO1 R1 G1 g2 HW1
  go_wp2_with fail
  go_loopg [3, 4, 6, 7, 8, 9, 10] 4 (fun g s3 s4 s6 s7 s8 s9 s10 wr => ∃ (k nx q' : Nat) (vs : List Vx) (L : List Value), s7 = s7 ∧ s8 = s8 ∧ s9 = s9 ∧ s10 = s10 ∧ k ≤ 1 + n0 ∧ s6 = .int .i64 k ∧ s4 = .int .i64 nx ∧ nx ≤ 4 * k ∧ vs.length = k ∧ q' ≤ q + 1 + 450 * k ∧ 3 - k < g ∧ Hid (OwnX wr w.heap.size s3 k L) ∧ Hid (RowG wr w.heap.size s3.ownBlock vs L) ∧ Rd wr r A cap bs q' ∧ w.grownBy wr (some r))
  case atStart => exact ⟨0, 0, q + 1, [], [], rfl, rfl, rfl, rfl, by omega, rfl, rfl, by omega, rfl, by omega, by omega, HO2, RowG.nil _ _ _, R2, G2⟩
  case round =>
    clear HO2 R2 G2
    obtain ⟨k, nx, q', vs, L, _, _, _, _, hk, rfl, rfl, hnx, hvl, hq', hg, HO, HR, R, G⟩ := hrel
    cases gk with
    | zero => omega
    | succ g =>
    obtain ⟨row, hrow⟩ : ∃ row, row = u3 := ⟨_, rfl⟩
    rw [← hrow] at HO HR ⊢
    clear hrow
    have HVL := Lib.hid hvl
    have hzr := G.size
    have hn2 : n0 ≤ 1 := by omega
    clear hvl
    by_cases hlt : k < 1 + n0
    · have dk : (k : Int) < 1 + (n0 : Int) := by omega
      have dk' : decide ((k : Int) < 1 + (n0 : Int)) = true := by simp; omega
      go_wp2_with fail
      refine (spec_l92Closing wr r A cap bs q' R (by omega)).mono ?_
      rintro e w3 ⟨B3, xs, c3, q3, rfl, hA3, hc3, hcm3, hx2, hx4, hq3, R3, g3⟩
      have ho3 : OwnX w3 w.heap.size row k L := HO.out.kept g3 (by
        cases hv : row.ownBlock with
        | none => exact Or.inl rfl
        | some b => right; intro e; have h1 := (HO.out.lt b hv).1; have h2 := Option.some.inj e; omega)
      have hr3 : RowG w3 w.heap.size row.ownBlock vs L := HR.out.to (some r) g3 (fun b e => by cases e; exact hr)
      have hu3 : IntsG w3 w.heap.size row.ownBlock (.slice B3 xs.length c3) xs := (IntsG.of_awayF hA3 hc3 hcm3 (fun b hb => (HO.out.lt b hb).2)).low hzr
      have G3 := G.trans g3
      have HO3 := Lib.hid ho3
      have HR3 := Lib.hid hr3
      have HU3 := Lib.hid hu3
      have hz3 := g3.size
      obtain ⟨w4, hw4⟩ : ∃ w4, w4 = w3.alloc (.cells #[] 3) := ⟨_, rfl⟩
      have HB4 : Hid (Below w3.heap.size w3 w4) := by show Below _ _ _; rw [hw4]; exact (Below.refl _ _).alloc (Nat.le_refl _) _
      have HC4 : Hid (Own w4 w3.heap.size (.slice (some ⟨w3.heap.size, 0, none⟩) 0 0) []) := by show Own _ _ _ _; rw [hw4]; exact own_empty w3 (Nat.le_refl _)
      have HW4 := Lib.hid hw4
      clear hw4 ho3 hr3 hu3 hA3 HO HR R G g3
      go_wp2_with fail
      rw [← HW4.out]
      obtain ⟨wA, rfl⟩ : ∃ wA, wA = wr := ⟨_, rfl⟩
      go_loopg [4, 8, 9] 6 (fun g s4 s8 s9 wr => ∃ (j : Nat) (cs : List Int), j ≤ xs.length ∧ s9 = .int .i64 j ∧ s4 = .int .i64 ((nx + j : Nat) : Int) ∧ cs.length = j ∧ 5 - j < g ∧ Hid (Own wr w3.heap.size s8 cs) ∧ Hid (Below w3.heap.size w3 wr))
      case atStart => exact ⟨0, [], by omega, rfl, rfl, rfl, by omega, HC4, HB4⟩
      case round =>
        clear HC4 HB4 HW4
        obtain ⟨j, cs, hj, rfl, rfl, hcl, hgj, HC, HB⟩ := hrel
        cases gk with
        | zero => omega
        | succ gj =>
        by_cases hjl : j < xs.length
        · have j1 : (j : Int) < (xs.length : Int) := by omega
          have hown := HC.out
          have hsz := HB.out.size
          have HCL := Lib.hid hcl
          have hlc : cs.length ≤ 10 := by omega
          clear hcl
          go_wp2_with (at_builtin; go_loud (refine wpList_push (W := wr) rfl _ _ rfl w3.heap.size _ _ ((nx + j : Nat) : Int) (by rfl) (by rfl) hown hsz (by omega) ?_))
          intro v' w5 hown5 hgr5 hb5
          have HC5 := Lib.hid hown5
          have HB5 := Lib.hid (HB.out.trans hb5)
          have hl5 : (cs ++ [((nx + j : Nat) : Int)]).length = j + 1 := by rw [List.length_append, HCL.out]; rfl
          clear hown hown5 hgr5 hb5 HC HB
          go_wp2_with fail
          go_roundg gj
          case measure => omega
          case rel => exact ⟨j + 1, _, by omega, by go_num, by go_num, hl5, by omega, HC5, HB5⟩
        · obtain rfl : j = xs.length := by omega
          obtain ⟨V8, hV8⟩ : ∃ V8, V8 = u8 := ⟨_, rfl⟩
          rw [← hV8] at HC ⊢
          clear hV8
          have hz3r := HB.out.size
          have hr3 := R3.blk.lt
          have hot : OwnX wr w.heap.size row k L := own_below2' HO3.out HB.out
          have hrt : RowG wr w.heap.size row.ownBlock vs L := HR3.out.below HB.out
          have hut : IntsG wr w.heap.size row.ownBlock (.slice B3 xs.length c3) xs := HU3.out.to HB.out.size (fun b _ _ hl => HB.out.block b hl) (fun _ _ hb _ => hb)
          have hct : Own wr w3.heap.size V8 cs := HC.out
          have rt : Rd wr r A cap bs q3 := R3.below HB.out hr3
          have hlowt : w.heap.size ≤ w3.heap.size := by omega
          have gt : w.grownBy wr (some r) := grown_below G3 (HB.out.mono hlowt)
          have hrl3 : ∀ g, row.ownBlock = some g → g < w3.heap.size := fun g hg => (HO3.out.lt g hg).2
          have hnet : V8.ownBlock ≠ row.ownBlock := own_ne_row hct (by intro e; rw [e] at hcl; simp at hcl; omega) hrl3
          clear HO3 HR3 HU3 HC HB R3 G3
          by_cases hk0 : k = 0
          · have dk0 : decide ((0 : Int) < (k : Int)) = false := by simp; omega
            have dkn : ¬ 0 < k := by omega
            have HK0 := Lib.hid hk0
            clear hk0
            obtain ⟨wt, rfl⟩ : ∃ wt, wt = wr := ⟨_, rfl⟩
            have HOt := Lib.hid hot
            have HRt := Lib.hid hrt
            have HUt := Lib.hid hut
            obtain ⟨A9, c9, e9, _, _, _⟩ := hct.form
            subst e9
            rw [hcl] at hct hnet ⊢
            have HCt := Lib.hid hct
            have hzt : w.heap.size ≤ wt.heap.size := gt.size
            clear hot hrt hut hct
            go_wp2_with (at_builtin; go_loud (refine wpList_pushV (W := wt) rfl _ _ rfl w.heap.size _ k L _ _ (by rfl) (by rfl) HOt.out (by rfl) (by rfl) hzt (by omega) ?_))
            intro v8 w8 ho8 hg8 hb8 hm8 _
            have hr8 : RowG w8 w.heap.size v8.ownBlock (vs ++ [(xs, cs)]) _ := HRt.out.push hx2 hx4 hcl HUt.out (by
              have := HCt.out
              exact own_lower' this hlowt) hnet hg8 hm8
            have HO8 := Lib.hid ho8
            have HR8 := Lib.hid hr8
            have rowlt : ∀ g, row.ownBlock = some g → w.heap.size ≤ g := fun g hg => (HOt.out.lt g hg).1
            have R8 := rt.row hg8 (fun g hg => by have := rowlt g hg; omega)
            have G8 := grown_row gt hg8 rowlt
            have hvl8 : (vs ++ [(xs, cs)]).length = k + 1 := by rw [List.length_append, HVL.out]; rfl
            clear ho8 hr8 hg8 hb8 hm8 HOt HRt HUt HCt rt gt rowlt
            go_wp2_with fail
            go_roundg g
            case measure => omega
            case rel => exact ⟨k + 1, nx + xs.length, q3, vs ++ [(xs, cs)], _, trivial, trivial, trivial, trivial, by omega, by go_num, by go_num, by omega, hvl8, by omega, by omega, HO8, HR8, R8, G8⟩
          · obtain rfl : k = 1 := by omega
            obtain ⟨gR, cR, rfl, hgR1, hgR2⟩ := World.ownsRow.form hot (by omega)
            have HOw := Lib.hid hot
            have HRw := Lib.hid hrt
            have HUw := Lib.hid hut
            have HCw := Lib.hid hct
            have HCl := Lib.hid hcl
            have HGt := Lib.hid gt
            clear hk0 hot hrt hut hct hcl gt
            go_wp2_with fail
            refine (spec_pick wr r A cap bs q3 4 rt (by omega) (by omega)).mono ?_
            rintro e w5 ⟨m, rfl, hm, R5, g5⟩
            have hot : OwnX w5 w.heap.size (.slice (some ⟨gR, 0, none⟩) 1 cR) 1 L := HOw.out.kept g5 (Or.inr (by intro e; have e' : gR = r := Option.some.inj e; omega))
            have hrt : RowG w5 w.heap.size (Value.slice (some ⟨gR, 0, none⟩) 1 cR).ownBlock vs L := HRw.out.to (some r) g5 (fun b e => by cases e; exact hr)
            have hut : IntsG w5 w.heap.size (Value.slice (some ⟨gR, 0, none⟩) 1 cR).ownBlock (.slice B3 xs.length c3) xs := HUw.out.to g5.size (fun b hb _ hl => g5.block b hl (fun e => by have e' := Option.some.inj e; omega)) (fun _ _ hb _ => hb)
            have hct : Own w5 w3.heap.size V8 cs := HCw.out.kept g5 (by
              cases hv : V8.ownBlock with
              | none => exact Or.inl rfl
              | some b => right; intro e; have h1 := (HCw.out.lt b hv).1; have h2 := Option.some.inj e; omega)
            have hcl := HCl.out
            have rt := R5
            have gt := HGt.out.trans g5
            have hz5 := g5.size
            have hgR5 : gR < w5.heap.size := by omega
            clear HOw HRw HUw HCw HGt R5 g5
            by_cases hm0 : m = 0
            · subst hm0
              obtain ⟨wt, rfl⟩ : ∃ wt, wt = w5 := ⟨_, rfl⟩
              have HOt := Lib.hid hot
              have HRt := Lib.hid hrt
              have HUt := Lib.hid hut
              obtain ⟨A9, c9, e9, _, _, _⟩ := hct.form
              subst e9
              rw [hcl] at hct hnet ⊢
              have HCt := Lib.hid hct
              have hzt : w.heap.size ≤ wt.heap.size := gt.size
              clear hot hrt hut hct
              go_wp2_with (at_builtin; go_loud (refine wpList_pushV (W := wt) rfl _ _ rfl w.heap.size _ 1 L _ _ (by rfl) (by rfl) HOt.out (by rfl) (by rfl) hzt (by omega) ?_))
              intro v8 w8 ho8 hg8 hb8 hm8 _
              have hr8 : RowG w8 w.heap.size v8.ownBlock (vs ++ [(xs, cs)]) _ := HRt.out.push hx2 hx4 hcl HUt.out (by
                have := HCt.out
                exact own_lower' this hlowt) hnet hg8 hm8
              have HO8 := Lib.hid ho8
              have HR8 := Lib.hid hr8
              have rowlt : ∀ g, (Value.slice (some ⟨gR, 0, none⟩) 1 cR).ownBlock = some g → w.heap.size ≤ g := fun g hg => (HOt.out.lt g hg).1
              have R8 := rt.row hg8 (fun g hg => by have := rowlt g hg; omega)
              have G8 := grown_row gt hg8 rowlt
              have hvl8 : (vs ++ [(xs, cs)]).length = 1 + 1 := by rw [List.length_append, HVL.out]; rfl
              clear ho8 hr8 hg8 hb8 hm8 HOt HRt HUt HCt rt gt rowlt
              go_wp2_with fail
              go_roundg g
              case measure => omega
              case rel => exact ⟨1 + 1, nx + xs.length, q3 + 1, vs ++ [(xs, cs)], _, trivial, trivial, trivial, trivial, by omega, by go_num, by go_num, by omega, hvl8, by omega, by omega, HO8, HR8, R8, G8⟩
            · have dm : decide ((0 : Int) < (m : Int)) = true := by simp; omega
              have dmn : 0 < m := by omega
              have HOw := Lib.hid hot
              have HRw := Lib.hid hrt
              have HUw := Lib.hid hut
              have HCw := Lib.hid hct
              have HGt := Lib.hid gt
              obtain ⟨⟨y2, y4, yl⟩, U0, V0, e1, e2, i1, o2, n2⟩ := hrt.2 0 (vs[0]'(by have := HVL.out; omega)) (List.getElem?_eq_getElem _)
              obtain ⟨gC, cC, rfl, hgC1, hgC2⟩ := World.ownsRow.form o2 (by omega)
              obtain ⟨lc, hlc⟩ : ∃ lc, lc = (vs[0]'(by have := HVL.out; omega)).2.length := ⟨_, rfl⟩
              have hc0 := hot.cellAt 1 (by omega)
              rw [show (1 : Nat) = 0 * 2 + 1 from rfl, e2, ← hlc] at hc0
              obtain ⟨f, hf⟩ : ∃ f : Nat → Int, ∀ x, x < lc → w5.cell? ⟨gC, x, none⟩ = some (.int .i64 (f x)) := by
                refine ⟨fun x => (vs[0]'(by have := HVL.out; omega)).2.getD x 0, fun x hx => ?_⟩
                have h1 := o2.cellAt x (by omega)
                rw [List.getElem?_map, List.getElem?_eq_getElem (by omega)] at h1
                rw [h1]
                have hxl2 : x < (vs[0]'(by have := HVL.out; omega)).2.length := by omega
                simp [List.getD_eq_getElem?_getD, List.getElem?_eq_getElem hxl2]
              have hf2 : ∀ (W : World) (d : Nat), (w5.drewN d).grownBy W (some r) → ∀ x, x < lc → W.cell? ⟨gC, x, none⟩ = some (.int .i64 (f x)) := fun W d hg x hx =>
                (hg.cell_far ⟨gC, x, none⟩ (by simpa using hgC2) (by intro e; have e' : gC = r := Option.some.inj e; omega)).trans (hf x hx)
              have HF := Lib.hid hf
              have HF2 := Lib.hid hf2
              have HL2 : 2 ≤ lc ∧ lc ≤ 4 := by omega
              have HN2 := Lib.hid n2
              clear hot hrt hut hct hf hf2 gt e1 e2 i1 o2 n2 hlc hm
              have kw0 : IntKind.i64.wrap 0 = 0 := rfl
              have hgCr : gR ≠ r := by omega
              go_wp2_with fail
              go_region_held3 (fun W => W.cell? ⟨gR, 1, none⟩ = some (.slice (some ⟨gC, 0, none⟩) lc cC) ∧ ∀ x, x < lc → W.cell? ⟨gC, x, none⟩ = some (.int .i64 (f x))) (first | exact ⟨hc0, HF.out⟩ | exact ⟨(g6.cell_far ⟨gR, 1, none⟩ (by simpa using hgR5) (by intro e; exact hgCr (Option.some.inj e))).trans hc0, HF2.out _ _ g6⟩) ((go_simp; go_at_call 53; refine (spec_pick _ r A cap bs (q3 + 1) lc (rt.drewN _) (by omega) (by omega)).mono ?_; rintro e w6 ⟨x, rfl, hx, R6, g6⟩; have hxl : x < lc := by omega))
              all_goals
                obtain ⟨y, hy⟩ : ∃ y, y = f x := ⟨_, rfl⟩
                rw [← hy]
                have g6' : w5.grownBy w6 (some r) := ⟨g6.os, g6.tape, g6.output, g6.size, g6.block⟩
                have hot : OwnX w6 w.heap.size (.slice (some ⟨gR, 0, none⟩) 1 cR) 1 L := HOw.out.kept g6' (Or.inr (by intro e; have e' : gR = r := Option.some.inj e; omega))
                have hrt : RowG w6 w.heap.size (Value.slice (some ⟨gR, 0, none⟩) 1 cR).ownBlock vs L := HRw.out.to (some r) g6' (fun b e => by cases e; exact hr)
                have hut : IntsG w6 w.heap.size (Value.slice (some ⟨gR, 0, none⟩) 1 cR).ownBlock (.slice B3 xs.length c3) xs := HUw.out.to g6'.size (fun b hb _ hl => g6'.block b hl (fun e => by have e' := Option.some.inj e; omega)) (fun _ _ hb _ => hb)
                have hct : Own w6 w3.heap.size V8 cs := HCw.out.kept g6' (by
                  cases hv : V8.ownBlock with
                  | none => exact Or.inl rfl
                  | some b => right; intro e; have h1 := (HCw.out.lt b hv).1; have h2 := Option.some.inj e; omega)
                have hcl := HCl.out
                have rt6 := R6
                have gt6 := HGt.out.trans g6'
                have hz6 := g6'.size
                have hV6 : Verts w6 (some ⟨gR, 0, none⟩) vs := (hrt.vertsF hot HVL.out).verts
                obtain ⟨uu, huu⟩ : ∃ uu, uu = useN vs y := ⟨_, rfl⟩
                have hcu : Calls Try.prog 52 #[.slice (some ⟨gR, 0, none⟩) 1 cR, .int .i64 y] w6 fun e w' => e = .returned (.int .i64 (uu : Int)) ∧ w6 = w' := by
                  have h1 := spec_l6pUses (some ⟨gR, 0, none⟩) cR vs y w6 hV6 (by rw [HVL.out]; omega)
                  rw [HVL.out, ← huu] at h1
                  exact h1
                have HCU := Lib.hid hcu
                clear HOw HRw HUw HCw HGt R6 g6 g6' hV6 hcu huu HF HF2 rt hc0 hx hy
                by_cases hu1 : uu = 1
                · have du : ((uu : Int) == 1) = true := by rw [beq_iff_eq]; omega
                  obtain ⟨g8, c8, e8, h81, h82⟩ := World.ownsRow.form hct (by omega)
                  subst e8
                  have hi8 : Ints w6 (some ⟨g8, 0, none⟩) (cs.take (xs.length - 1)) := by have := (Ints.of_own hct).cut 0 (xs.length - 1); simpa using this
                  obtain ⟨_, c8', e8', _, hc8, hm8⟩ := hct.form
                  have hcc : c8 = c8' := by injection e8'
                  subst hcc
                  unfold maxLen at hm8
                  have hl8 : (cs.take (xs.length - 1)).length = xs.length - 1 := by rw [List.length_take]; omega
                  have ho7 := own_one w6 (B := w6.heap.size) y (Nat.le_refl _)
                  have hi7 := hi8.alloc (.cells #[.int .i64 y] 3)
                  have b6 : Below w6.heap.size w6 (w6.alloc (.cells #[.int .i64 y] 3)) := (Below.refl _ _).alloc (Nat.le_refl _) _
                  have HOw := Lib.hid hot
                  have HRw := Lib.hid hrt
                  have HUw := Lib.hid hut
                  have HGt := Lib.hid gt6
                  have HRt6 := Lib.hid rt6
                  have HL8 := Lib.hid hl8
                  have HB6 := Lib.hid b6
                  have HO7 := Lib.hid ho7
                  have HI7 := Lib.hid hi7
                  have l1 : (1 : Int) ≤ (xs.length : Int) := by omega
                  have l2 : (xs.length : Int) ≤ (c8 : Int) := by omega
                  have l3 : (xs.length : Int) - 1 ≤ (c8 : Int) := by omega
                  have l4 : ((xs.length : Int) - 1).toNat = xs.length - 1 := by omega
                  have l5 : (0 : Int) ≤ (xs.length : Int) - 1 := by omega
                  have l6 : ¬ c8 = 0 := by omega
                  have hnx8 : nx + xs.length ≤ 100 := by omega
                  have hnx1 : (1 : Int) ≤ ((nx + xs.length : Nat) : Int) := by omega
                  have HCl8 := Lib.hid hcl
                  rw [hcl]
                  clear hot hrt hut hct gt6 rt6 hi8 hi7 hl8 b6 ho7 hu1 e8' hnet hcl HCl
                  go_wp2_with fail
                  refine HCU.out.mono ?_
                  rintro e w' ⟨rfl, rfl⟩
                  go_wp2_with (at_builtin; go_loud (refine wpList_app (by rfl) _ _ (by rfl) w6.heap.size _ [y] (cs.take (xs.length - 1)) _ _ (by rfl) (xs.length - 1) HL8.out (by rfl) HO7.out HI7.out HB6.out.size (by rw [HL8.out]; simp; omega) ?_))
                  intro v9 w9 ho9 hg9 hb9
                  obtain ⟨cs9, hcs9⟩ : ∃ cs9, cs9 = y :: cs.take (xs.length - 1) := ⟨_, rfl⟩
                  rw [← hcs9] at ho9
                  have hcl : cs9.length = xs.length := by rw [hcs9, List.length_cons, HL8.out]; omega
                  have b9 : Below w6.heap.size w6 w9 := HB6.out.trans hb9
                  obtain ⟨wt, rfl⟩ : ∃ wt, wt = w9 := ⟨_, rfl⟩
                  have hot := own_below2' HOw.out b9
                  have hrt := HRw.out.below b9
                  have hut := HUw.out.to b9.size (fun b _ _ hl => b9.block b hl) (fun _ _ hb _ => hb)
                  have hct := ho9
                  have rt := HRt6.out.below b9 HRt6.out.blk.lt
                  have gt : w.grownBy wt (some r) := grown_below HGt.out (b9.mono HGt.out.size)
                  have hlowt : w.heap.size ≤ w6.heap.size := HGt.out.size
                  have hnet : v9.ownBlock ≠ (Value.slice (some ⟨gR, 0, none⟩) 1 cR).ownBlock := own_ne_row hct (by intro e; rw [e] at hcl; simp at hcl; omega) (fun g hg => by have e' : gR = g := Option.some.inj hg; omega)
                  clear ho9 hg9 hb9 hcs9 b9 HOw HRw HUw HGt HRt6 HL8 HB6 HO7 HI7 HCU
                  have HOt := Lib.hid hot
                  have HRt := Lib.hid hrt
                  have HUt := Lib.hid hut
                  obtain ⟨A9, c9, e9, _, _, _⟩ := hct.form
                  subst e9
                  rw [hcl] at hct hnet ⊢
                  have HCt := Lib.hid hct
                  have hzt : w.heap.size ≤ wt.heap.size := gt.size
                  clear hot hrt hut hct
                  go_wp2_with (at_builtin; go_loud (refine wpList_pushV (W := wt) rfl _ _ rfl w.heap.size _ 1 L _ _ (by rfl) (by rfl) HOt.out (by rfl) (by rfl) hzt (by omega) ?_))
                  intro v8 w8 ho8 hg8 hb8 hm8 _
                  have hr8 : RowG w8 w.heap.size v8.ownBlock (vs ++ [(xs, cs9)]) _ := HRt.out.push hx2 hx4 hcl HUt.out (by
                    have := HCt.out
                    exact own_lower' this hlowt) hnet hg8 hm8
                  have HO8 := Lib.hid ho8
                  have HR8 := Lib.hid hr8
                  have rowlt : ∀ g, (Value.slice (some ⟨gR, 0, none⟩) 1 cR).ownBlock = some g → w.heap.size ≤ g := fun g hg => (HOt.out.lt g hg).1
                  have R8 := rt.row hg8 (fun g hg => by have := rowlt g hg; omega)
                  have G8 := grown_row gt hg8 rowlt
                  have hvl8 : (vs ++ [(xs, cs9)]).length = 1 + 1 := by rw [List.length_append, HVL.out]; rfl
                  clear ho8 hr8 hg8 hb8 hm8 HOt HRt HUt HCt rt gt rowlt
                  go_wp2_with fail
                  go_roundg g
                  case measure => omega
                  case rel => exact ⟨1 + 1, nx + xs.length - 1, q3 + 1 + 1, vs ++ [(xs, cs9)], _, trivial, trivial, trivial, trivial, by omega, by go_num, by first | go_num | (congr 1; omega), by omega, hvl8, by omega, by omega, HO8, HR8, R8, G8⟩
                · have du : ((uu : Int) == 1) = false := by rw [beq_eq_false_iff_ne]; omega
                  have HOw := Lib.hid hot
                  have HRw := Lib.hid hrt
                  have HUw := Lib.hid hut
                  have HCw := Lib.hid hct
                  have HGt := Lib.hid gt6
                  have HRt6 := Lib.hid rt6
                  have HCl8 := Lib.hid hcl
                  clear hot hrt hut hct gt6 rt6 hu1 hcl HCl
                  go_wp2_with fail
                  refine HCU.out.mono ?_
                  rintro e w' ⟨rfl, rfl⟩
                  obtain ⟨wt, rfl⟩ : ∃ wt, wt = w6 := ⟨_, rfl⟩
                  have hot := HOw.out
                  have hrt := HRw.out
                  have hut := HUw.out
                  have hct := HCw.out
                  have rt := HRt6.out
                  have gt := HGt.out
                  have hcl := HCl8.out
                  clear HOw HRw HUw HCw HGt HRt6 HCl8 HCU
                  have HOt := Lib.hid hot
                  have HRt := Lib.hid hrt
                  have HUt := Lib.hid hut
                  obtain ⟨A9, c9, e9, _, _, _⟩ := hct.form
                  subst e9
                  rw [hcl] at hct hnet ⊢
                  have HCt := Lib.hid hct
                  have hzt : w.heap.size ≤ wt.heap.size := gt.size
                  clear hot hrt hut hct
                  go_wp2_with (at_builtin; go_loud (refine wpList_pushV (W := wt) rfl _ _ rfl w.heap.size _ 1 L _ _ (by rfl) (by rfl) HOt.out (by rfl) (by rfl) hzt (by omega) ?_))
                  intro v8 w8 ho8 hg8 hb8 hm8 _
                  have hr8 : RowG w8 w.heap.size v8.ownBlock (vs ++ [(xs, cs)]) _ := HRt.out.push hx2 hx4 hcl HUt.out (by
                    have := HCt.out
                    exact own_lower' this hlowt) hnet hg8 hm8
                  have HO8 := Lib.hid ho8
                  have HR8 := Lib.hid hr8
                  have rowlt : ∀ g, (Value.slice (some ⟨gR, 0, none⟩) 1 cR).ownBlock = some g → w.heap.size ≤ g := fun g hg => (HOt.out.lt g hg).1
                  have R8 := rt.row hg8 (fun g hg => by have := rowlt g hg; omega)
                  have G8 := grown_row gt hg8 rowlt
                  have hvl8 : (vs ++ [(xs, cs)]).length = 1 + 1 := by rw [List.length_append, HVL.out]; rfl
                  clear ho8 hr8 hg8 hb8 hm8 HOt HRt HUt HCt rt gt rowlt
                  go_wp2_with fail
                  go_roundg g
                  case measure => omega
                  case rel => exact ⟨1 + 1, nx + xs.length, q3 + 1 + 1, vs ++ [(xs, cs)], _, trivial, trivial, trivial, trivial, by omega, by go_num, by first | go_num | (congr 1; omega), by omega, hvl8, by omega, by omega, HO8, HR8, R8, G8⟩
    · obtain rfl : k = 1 + n0 := by omega
      have dk' : decide (1 + (n0 : Int) < 1 + (n0 : Int)) = false := by simp
      obtain ⟨gR, cR, rfl, hgR1, hgR2⟩ := World.ownsRow.form HO.out (by omega)
      go_wp2_with fail
      refine (spec_pick wr r A cap bs q' 40 R (by omega) (by omega)).mono ?_
      rintro e w5 ⟨v, rfl, hv, R5, g5⟩
      have hot : OwnX w5 w.heap.size (.slice (some ⟨gR, 0, none⟩) (1 + n0) cR) (1 + n0) L := HO.out.kept g5 (Or.inr (by intro e; have e' : gR = r := Option.some.inj e; omega))
      have hrt : RowG w5 w.heap.size (some gR) vs L := HR.out.to (some r) g5 (fun b e => by cases e; exact hr)
      have gt : w.grownBy w5 (some r) := G.trans g5
      have hz5 := g5.size
      have hgR5 : gR < w5.heap.size := by omega
      have hcR : 1 + n0 ≤ cR ∧ cR ≤ maxLen := by
        obtain ⟨A9, c9, e9, h1, h2⟩ := hot.form
        injection e9 with e1 _ e3
        omega
      obtain ⟨hcR1, hcR2⟩ := hcR
      have hvsl : vs.length = 1 + n0 := HVL.out
      have HOt := Lib.hid hot
      have HRt := Lib.hid hrt
      have HGt := Lib.hid gt
      have kn : (0 : Int) < 1 + (n0 : Int) := by omega
      have kn' : 0 < 1 + n0 := by omega
      obtain ⟨v0, hv0g⟩ : ∃ v0, vs[0]? = some v0 := ⟨_, List.getElem?_eq_getElem (by omega)⟩
      obtain ⟨⟨y2, y4, yl⟩, U0, V0, e1, e2, i1, o2, n2⟩ := hrt.2 0 v0 hv0g
      have hc0 := hot.cellAt 0 (by omega)
      have hc1 := hot.cellAt 1 (by omega)
      rw [show (0 : Nat) = 0 * 2 from rfl, e1] at hc0
      rw [show (1 : Nat) = 0 * 2 + 1 from rfl, e2] at hc1
      have hf0 := hot.frozenAt 0
      have HVs := Lib.hid hvsl
      by_cases hv0 : v = 0
      · subst hv0
        have oc := o2.form
        obtain ⟨gC, cC, rfl, hgC1, hgC2⟩ := World.ownsRow.form o2 (by omega)
        obtain ⟨lc, hlc⟩ : ∃ lc, lc = v0.2.length := ⟨_, rfl⟩
        rw [← hlc] at hc1 yl
        have hgC : gC ≠ gR := fun e => n2 (by rw [e]; rfl)
        have hy0 := o2.cellAt 0 (by omega)
        have hy1 := o2.cellAt 1 (by omega)
        rw [List.getElem?_map, List.getElem?_eq_getElem (by omega)] at hy0 hy1
        obtain ⟨y0, hy0'⟩ : ∃ y0 : Int, w5.cell? ⟨gC, 0, none⟩ = some (.int .i64 y0) := ⟨_, hy0⟩
        obtain ⟨y1, hy1'⟩ : ∃ y1 : Int, w5.cell? ⟨gC, 1, none⟩ = some (.int .i64 y1) := ⟨_, hy1⟩
        have hfC := o2.frozenAt 0
        have hbC : w5.heap[gC]? = some (.cells ((w5.heap[gC]?).elim #[] fun | .cells c _ _ => c | _ => #[]) 3 (0, 0)) ∨ True := Or.inr trivial
        have hlcb : 2 ≤ lc ∧ lc ≤ 4 := by omega
        have b0 : (0 : Int) < (lc : Int) := by omega
        have b1 : (1 : Int) < (lc : Int) := by omega
        have b0' : 0 < lc := by omega
        have b1' : 1 < lc := by omega
        have b2 : (1 : Int) ≤ (lc : Int) := by omega
        have b3 : (0 : Int) ≤ 1 := by omega
        have b4 : decide ((1 : Int) < (lc : Int)) = true := by simp; omega
        have b5 : lc ≠ 1 := by omega
        have b6 : (2 : Int) ≤ (lc : Int) := by omega
        have hlr : ∀ (c : Array Value), gC ≠ r := by intro _; omega
        clear hbC oc hy0 hy1 hlc yl e1 e2 i1 o2 n2 hot hrt gt hvsl hc0 hf0 hv0g
        go_wp2_with fail
        have RA := (R5.far (.cells #[.int .i64 (-1), .int .i64 10, .int .i64 y1] 3)).drewN 1
        have hcells : ∀ W : World, w5.grownBy W (some r) → W.cell? ⟨gR, 1, none⟩ = some (.slice (some ⟨gC, 0, none⟩) lc cC) ∧ W.cell? ⟨gC, 1, none⟩ = some (.int .i64 y1) ∧ (W.cell? ⟨gC, 0, none⟩).isSome = true ∧ W.frozen? ⟨gC, 0, none⟩ = false := by
          intro W hg
          have hgCr : gC ≠ r := by omega
          have hgRr : gR ≠ r := by omega
          refine ⟨(hg.cell_far ⟨gR, 1, none⟩ hgR5 (by intro e; exact hgRr (Option.some.inj e))).trans hc1, (hg.cell_far ⟨gC, 1, none⟩ hgC2 (by intro e; exact hgCr (Option.some.inj e))).trans hy1', by rw [(hg.cell_far ⟨gC, 0, none⟩ hgC2 (by intro e; exact hgCr (Option.some.inj e))).trans hy0']; rfl, ?_⟩
          rw [World.frozen?_of_block (w := w5) (a := ⟨gC, 0, none⟩)]
          · exact hfC
          · exact hg.block gC hgC2 (by intro e; exact hgCr (Option.some.inj e))
        have HCE := Lib.hid hcells
        clear hcells
        have hnb : ∀ (W : World) (x : Nat), x < 3 → ((w5.alloc (.cells #[.int .i64 (-1), .int .i64 10, .int .i64 y1] 3)).drewN 1).grownBy W (some r) → ∃ z, W.cell? ⟨w5.heap.size, x, none⟩ = some (.int .i64 z) := by
          intro W x hx hg
          have hrw := R5.blk.lt
          have hb := Blk.new w5 3 #[.int .i64 (-1), .int .i64 10, .int .i64 y1]
          have h1 := hg.cell_far ⟨w5.heap.size, x, none⟩ (by simp) (by intro e; have e' := Option.some.inj e; simp at e'; omega)
          rw [h1]
          have h2 : ((w5.alloc (.cells #[.int .i64 (-1), .int .i64 10, .int .i64 y1] 3)).drewN 1).cell? ⟨w5.heap.size, x, none⟩ = _ := hb.cell x
          rw [h2]
          match x, hx with
          | 0, _ => exact ⟨-1, rfl⟩
          | 1, _ => exact ⟨10, rfl⟩
          | 2, _ => exact ⟨y1, rfl⟩
        have HNB := Lib.hid hnb
        clear hnb
        have hS0 := Lib.hid hy0'
        have hset : ∀ (W : World) (z : Int), w5.grownBy W (some r) → (W.setCell ⟨gC, 0, none⟩ (.int .i64 z)).cell? ⟨gR, 1, none⟩ = some (.slice (some ⟨gC, 0, none⟩) lc cC) ∧ (W.setCell ⟨gC, 0, none⟩ (.int .i64 z)).cell? ⟨gC, 1, none⟩ = some (.int .i64 y1) ∧ ((W.setCell ⟨gC, 0, none⟩ (.int .i64 z)).cell? ⟨gC, 0, none⟩).isSome = true ∧ (W.setCell ⟨gC, 0, none⟩ (.int .i64 z)).frozen? ⟨gC, 0, none⟩ = false := by
          intro W z hg
          obtain ⟨q1, q2, q3, q4⟩ := HCE.out W hg
          obtain ⟨y9, hy9⟩ : ∃ y9, W.cell? ⟨gC, 0, none⟩ = some y9 := Option.isSome_iff_exists.1 q3
          have hgCR : (⟨gC, 0, none⟩ : Addr).block ≠ (⟨gR, 1, none⟩ : Addr).block := hgC
          refine ⟨(World.cell?_setCell_far W ⟨gC, 0, none⟩ ⟨gR, 1, none⟩ _ hgCR).trans q1, (World.cell?_setCell_other W ⟨gC, 0, none⟩ ⟨gC, 1, none⟩ _ (by intro e; injection e with _ e; omega)).trans q2, by rw [World.cell?_setCell_same W _ _ hy9]; rfl, ?_⟩
          rw [World.frozen?_setCell]
          exact q4
        have HSET := Lib.hid hset
        have hend : ∀ (W : World) (z : Int) (q2 : Nat), q2 ≤ q + 1000 → w5.grownBy W (some r) → Rd W r A cap bs q2 → PatR w r A cap bs q (.returned (.slice (some ⟨gR, 0, none⟩) (1 + n0) cR)) (W.setCell ⟨gC, 0, none⟩ (.int .i64 z)) := by
          intro W z q2 hq2 hg hR
          have hot6 : OwnX W w.heap.size (.slice (some ⟨gR, 0, none⟩) (1 + n0) cR) (1 + n0) L := HOt.out.kept hg (Or.inr (by intro e; have e' : gR = r := Option.some.inj e; omega))
          have hrt6 : RowG W w.heap.size (some gR) vs L := HRt.out.to (some r) hg (fun b e => by cases e; exact hr)
          obtain ⟨vs', hl', hV', hlen'⟩ := hrt6.someV (g := gC) (i := 0) (z := z) hot6 HVs.out hgC
          have bset : Below w.heap.size W (W.setCell ⟨gC, 0, none⟩ (.int .i64 z)) := below_set W 0 _ hgC1
          exact ⟨some ⟨gR, 0, none⟩, vs', cR, q2, by rw [hl'], hV', by omega, by omega, hcR2, hlen', hq2, hR.below bset hr, grown_below (HGt.out.trans hg) bset⟩
        have HEND := Lib.hid hend
        have hnb2 : ∀ (W : World) (x : Nat), x < 3 → ∃ z, (W.alloc (.cells #[.int .i64 (-1), .int .i64 10, .int .i64 y1] 3)).cell? ⟨W.heap.size, x, none⟩ = some (.int .i64 z) := by
          intro W x hx
          rw [(Blk.new W 3 #[.int .i64 (-1), .int .i64 10, .int .i64 y1]).cell x]
          match x, hx with
          | 0, _ => exact ⟨-1, rfl⟩
          | 1, _ => exact ⟨10, rfl⟩
          | 2, _ => exact ⟨y1, rfl⟩
        have HNB2 := Lib.hid hnb2
        clear hnb2 hend hset
        refine wp_region_noPanic ?_
        refine wp_region_held_drew (S := fun W => W.cell? ⟨gR, 1, none⟩ = some (.slice (some ⟨gC, 0, none⟩) lc cC) ∧ W.cell? ⟨gC, 1, none⟩ = some (.int .i64 y1) ∧ (W.cell? ⟨gC, 0, none⟩).isSome = true ∧ W.frozen? ⟨gC, 0, none⟩ = false) (by kernel_rfl) (by exact ⟨hc1, hy1', (show (w5.cell? ⟨gC, 0, none⟩).isSome = true by rw [hS0.out]; rfl), hfC⟩) (fun hHeld => ?_)
        refine wpAnyH_take (i := 0) (v := ?_) rfl (by kernel_rfl) (by kernel_rfl) (by kernel_rfl) (fun _ _ _ h => h) (Or.inl ⟨by rfl, ?hy0⟩) (by assumption) ?rs0
        case hy0 => (intro w hSw; go_simp; all_goals with_reducible rfl)
        try simp only [List.getElem_toArray, List.getElem_cons_succ, List.getElem_cons_zero, Act.put, List.setIfInBounds_toArray, List.set_cons_zero, List.set_cons_succ]
        refine wpAnyH_take (i := 1) (v := ?_) rfl (by kernel_rfl) (by kernel_rfl) (by kernel_rfl) (fun _ _ _ h => h) (Or.inl ⟨by rfl, ?hy1⟩) (by assumption) ?rs1
        case hy1 => (intro w hSw; go_simp; all_goals with_reducible rfl)
        try simp only [List.getElem_toArray, List.getElem_cons_succ, List.getElem_cons_zero, Act.put, List.setIfInBounds_toArray, List.set_cons_zero, List.set_cons_succ]
        refine wpAnyH_take (i := 2) (v := ?_) rfl (by kernel_rfl) (by kernel_rfl) (by kernel_rfl) (fun _ _ _ h => h) (Or.inl ⟨by rfl, ?hy2⟩) (by assumption) ?rs2
        case hy2 => (intro w hSw; go_simp; all_goals with_reducible rfl)
        try simp only [List.getElem_toArray, List.getElem_cons_succ, List.getElem_cons_zero, Act.put, List.setIfInBounds_toArray, List.set_cons_zero, List.set_cons_succ]
        refine wpAnyH_take (i := 3) (v := ?_) rfl (by kernel_rfl) (by kernel_rfl) (by kernel_rfl) (fun _ _ _ h => h) (Or.inl ⟨by rfl, ?hy3⟩) (by assumption) ?rs3
        case hy3 => (intro w hSw; go_simp; all_goals with_reducible rfl)
        try simp only [List.getElem_toArray, List.getElem_cons_succ, List.getElem_cons_zero, Act.put, List.setIfInBounds_toArray, List.set_cons_zero, List.set_cons_succ]
        refine wpAnyH_take (i := 4) (v := ?_) rfl (by kernel_rfl) (by kernel_rfl) (by kernel_rfl) (fun _ _ _ h => h) (Or.inl ⟨by rfl, ?hy4⟩) (by assumption) ?rs4
        case hy4 => (intro w hSw; go_simp; all_goals with_reducible rfl)
        try simp only [List.getElem_toArray, List.getElem_cons_succ, List.getElem_cons_zero, Act.put, List.setIfInBounds_toArray, List.set_cons_zero, List.set_cons_succ]
        refine wpAnyH_take (i := 5) (v := ?_) rfl (by kernel_rfl) (by kernel_rfl) (by kernel_rfl) (fun _ _ _ h => h) (Or.inl ⟨by rfl, ?hy5⟩) (by assumption) ?rs5
        case hy5 => (intro w hSw; go_simp; all_goals with_reducible rfl)
        try simp only [List.getElem_toArray, List.getElem_cons_succ, List.getElem_cons_zero, Act.put, List.setIfInBounds_toArray, List.set_cons_zero, List.set_cons_succ]
        refine wpAnyH_take (i := 6) (v := ?_) rfl (by kernel_rfl) (by kernel_rfl) (by kernel_rfl) (fun _ _ _ h => h) (Or.inl ⟨by rfl, ?hy6⟩) (by assumption) ?rs6
        case hy6 => (intro w hSw; go_simp; all_goals with_reducible rfl)
        try simp only [List.getElem_toArray, List.getElem_cons_succ, List.getElem_cons_zero, Act.put, List.setIfInBounds_toArray, List.set_cons_zero, List.set_cons_succ]
        refine wpAnyH_take (i := 7) (v := ?_) rfl (by kernel_rfl) (by kernel_rfl) (by kernel_rfl) (fun _ _ _ h => h) (Or.inl ⟨by rfl, ?hy7⟩) (by assumption) ?rs7
        case hy7 => (intro w hSw; go_simp; all_goals with_reducible rfl)
        try simp only [List.getElem_toArray, List.getElem_cons_succ, List.getElem_cons_zero, Act.put, List.setIfInBounds_toArray, List.set_cons_zero, List.set_cons_succ]
        refine wpAnyH_take (i := 8) (v := ?_) rfl (by kernel_rfl) (by kernel_rfl) (by kernel_rfl) (fun _ _ _ h => h) (Or.inl ⟨by rfl, ?hy8⟩) (by assumption) ?rs8
        case hy8 => (intro w hSw; go_simp; all_goals with_reducible rfl)
        try simp only [List.getElem_toArray, List.getElem_cons_succ, List.getElem_cons_zero, Act.put, List.setIfInBounds_toArray, List.set_cons_zero, List.set_cons_succ]
        refine wpAnyH_take (i := 9) (v := ?_) rfl (by kernel_rfl) (by kernel_rfl) (by kernel_rfl) (fun _ _ _ h => h) (Or.inl ⟨by rfl, ?hy9⟩) (by assumption) ?rs9
        case hy9 => (intro w hSw; go_simp; all_goals with_reducible rfl)
        try simp only [List.getElem_toArray, List.getElem_cons_succ, List.getElem_cons_zero, Act.put, List.setIfInBounds_toArray, List.set_cons_zero, List.set_cons_succ]
        refine wpAnyH_take (i := 11) (v := ?_) rfl (by kernel_rfl) (by kernel_rfl) (by kernel_rfl) (fun _ _ _ h => h) (Or.inl ⟨by rfl, ?hy11⟩) (by assumption) ?rs11
        case hy11 => (intro w hSw; go_simp; all_goals with_reducible rfl)
        try simp only [List.getElem_toArray, List.getElem_cons_succ, List.getElem_cons_zero, Act.put, List.setIfInBounds_toArray, List.set_cons_zero, List.set_cons_succ]
        refine wpAnyH_ready (rs := [10, 12]) (by kernel_rfl) (by simp) ?_
        refine AllReadyH.cons rfl (fun K hK => ?_) (AllReadyH.cons rfl (fun K hK => ?_) AllReadyH.nil)
        · go_simp
          go_wp2_with fail
          refine hK.out _ _ ?_ (fun hHeld => ?_)
          · exact HCE.out _ ⟨rfl, rfl, rfl, by simp, fun k hk _ => Below.heap_alloc w5 _ k hk⟩
          clear hK K
          try simp only [List.getElem_toArray, List.getElem_cons_succ, List.getElem_cons_zero, Act.put, List.setIfInBounds_toArray, List.set_cons_zero, List.set_cons_succ]
          refine wpAnyH_ready (rs := [12]) (by kernel_rfl) (by simp) ?_
          refine AllReadyH.cons rfl (fun K hK => ?_) AllReadyH.nil
          go_simp
          go_at_call 53; refine (spec_pick _ r A cap bs (q' + 1) 3 RA (by omega) (by omega)).mono ?_; rintro e w6 ⟨x, rfl, hx, R6, g6⟩; have hxl : x < 3 := (by omega); have hxi : (x : Int) < 3 := (by omega); have hxi0 : (0 : Int) ≤ (x : Int) := (by omega); obtain ⟨z, hz⟩ := HNB.out w6 x hxl g6
          go_wp2_with fail
          refine hK.out _ _ ?_ (fun hHeld => ?_)
          · exact HCE.out _ (show w5.grownBy w6 (some r) from grown_of_alloc g6)
          clear hK K
          try simp only [List.getElem_toArray, List.getElem_cons_succ, List.getElem_cons_zero, Act.put, List.setIfInBounds_toArray, List.set_cons_zero, List.set_cons_succ]
          refine wpAnyH_take (i := 13) (v := ?_) rfl (by kernel_rfl) (by kernel_rfl) (by kernel_rfl) (fun _ _ _ h => h) (Or.inl ⟨by rfl, ?hy13⟩) (by assumption) ?rs13
          case hy13 => (intro w hSw; go_simp; all_goals with_reducible rfl)
          try simp only [List.getElem_toArray, List.getElem_cons_succ, List.getElem_cons_zero, Act.put, List.setIfInBounds_toArray, List.set_cons_zero, List.set_cons_succ]
          refine wpAnyH_ready (rs := [14]) (by kernel_rfl) (by simp) ?_
          refine AllReadyH.cons rfl (fun K hK => ?_) AllReadyH.nil
          go_simp
          go_wp2_with fail
          refine hK.out _ _ ?_ (fun hHeld => ?_)
          · exact HCE.out _ (show w5.grownBy w6 (some r) from grown_of_alloc g6)
          clear hK K
          try simp only [List.getElem_toArray, List.getElem_cons_succ, List.getElem_cons_zero, Act.put, List.setIfInBounds_toArray, List.set_cons_zero, List.set_cons_succ]
          refine wpAnyH_take (i := 15) (v := ?_) rfl (by kernel_rfl) (by kernel_rfl) (by kernel_rfl) (fun _ _ _ h => h) (Or.inl ⟨by rfl, ?hy15⟩) (by assumption) ?rs15
          case hy15 => (intro w hSw; go_simp; all_goals with_reducible rfl)
          try simp only [List.getElem_toArray, List.getElem_cons_succ, List.getElem_cons_zero, Act.put, List.setIfInBounds_toArray, List.set_cons_zero, List.set_cons_succ]
          obtain ⟨q1, q2, q3, q4⟩ := hHeld
          obtain ⟨y9, hy9⟩ : ∃ y9, (w6).cell? ⟨gC, 0, none⟩ = some y9 := Option.isSome_iff_exists.1 q3
          refine wpAnyH_ready (rs := [16]) (by kernel_rfl) (by simp) ?_
          refine AllReadyH.cons rfl (fun K hK => ?_) AllReadyH.nil
          go_simp
          go_wp2_with fail
          refine hK.out _ _ ?_ (fun hHeld => ?_)
          · exact HSET.out w6 z (show w5.grownBy w6 (some r) from grown_of_alloc g6)
          clear hK K
          try simp only [List.getElem_toArray, List.getElem_cons_succ, List.getElem_cons_zero, Act.put, List.setIfInBounds_toArray, List.set_cons_zero, List.set_cons_succ]
          refine wpAnyH_done (by kernel_rfl) ?_ _
          refine NoPanic.normal ?_
          go_wp2_with fail
          go_ret
          exact HEND.out w6 z (q' + 1 + 1) (by omega) (show w5.grownBy w6 (some r) from grown_of_alloc g6) R6
        · go_simp
          go_at_call 53; refine (spec_pick _ r A cap bs (q' + 1) 3 (R5.drewN 1) (by omega) (by omega)).mono ?_; rintro e w6 ⟨x, rfl, hx, R6, g6⟩; have hxl : x < 3 := (by omega); have hxi : (x : Int) < 3 := (by omega); have hxi0 : (0 : Int) ≤ (x : Int) := (by omega)
          go_wp2_with fail
          refine hK.out _ _ ?_ (fun hHeld => ?_)
          · exact HCE.out _ (show w5.grownBy w6 (some r) from ⟨g6.os, g6.tape, g6.output, g6.size, g6.block⟩)
          clear hK K
          try simp only [List.getElem_toArray, List.getElem_cons_succ, List.getElem_cons_zero, Act.put, List.setIfInBounds_toArray, List.set_cons_zero, List.set_cons_succ]
          refine wpAnyH_ready (rs := [10]) (by kernel_rfl) (by simp) ?_
          refine AllReadyH.cons rfl (fun K hK => ?_) AllReadyH.nil
          go_simp
          go_wp2_with fail
          refine hK.out _ _ ?_ (fun hHeld => ?_)
          · exact HCE.out _ ((show w5.grownBy w6 (some r) from ⟨g6.os, g6.tape, g6.output, g6.size, g6.block⟩).trans (grown_alloc w6 _ (some r)))
          clear hK K
          try simp only [List.getElem_toArray, List.getElem_cons_succ, List.getElem_cons_zero, Act.put, List.setIfInBounds_toArray, List.set_cons_zero, List.set_cons_succ]
          obtain ⟨z, hz⟩ : ∃ z, (w6.alloc (.cells #[.int .i64 (-1), .int .i64 10, .int .i64 y1] 3)).cell? ⟨w6.heap.size, x, none⟩ = some (.int .i64 z) := HNB2.out w6 x hxl
          refine wpAnyH_take (i := 13) (v := ?_) rfl (by kernel_rfl) (by kernel_rfl) (by kernel_rfl) (fun _ _ _ h => h) (Or.inl ⟨by rfl, ?hyb13⟩) (by assumption) ?rsb13
          case hyb13 => (intro w hSw; go_simp; all_goals with_reducible rfl)
          try simp only [List.getElem_toArray, List.getElem_cons_succ, List.getElem_cons_zero, Act.put, List.setIfInBounds_toArray, List.set_cons_zero, List.set_cons_succ]
          refine wpAnyH_ready (rs := [14]) (by kernel_rfl) (by simp) ?_
          refine AllReadyH.cons rfl (fun K hK => ?_) AllReadyH.nil
          go_simp
          go_wp2_with fail
          refine hK.out _ _ ?_ (fun hHeld => ?_)
          · exact HCE.out _ ((show w5.grownBy w6 (some r) from ⟨g6.os, g6.tape, g6.output, g6.size, g6.block⟩).trans (grown_alloc w6 _ (some r)))
          clear hK K
          try simp only [List.getElem_toArray, List.getElem_cons_succ, List.getElem_cons_zero, Act.put, List.setIfInBounds_toArray, List.set_cons_zero, List.set_cons_succ]
          refine wpAnyH_take (i := 15) (v := ?_) rfl (by kernel_rfl) (by kernel_rfl) (by kernel_rfl) (fun _ _ _ h => h) (Or.inl ⟨by rfl, ?hyb15⟩) (by assumption) ?rsb15
          case hyb15 => (intro w hSw; go_simp; all_goals with_reducible rfl)
          try simp only [List.getElem_toArray, List.getElem_cons_succ, List.getElem_cons_zero, Act.put, List.setIfInBounds_toArray, List.set_cons_zero, List.set_cons_succ]
          obtain ⟨q1, q2, q3, q4⟩ := hHeld
          obtain ⟨y9, hy9⟩ : ∃ y9, ((w6.alloc (.cells #[.int .i64 (-1), .int .i64 10, .int .i64 y1] 3))).cell? ⟨gC, 0, none⟩ = some y9 := Option.isSome_iff_exists.1 q3
          refine wpAnyH_ready (rs := [16]) (by kernel_rfl) (by simp) ?_
          refine AllReadyH.cons rfl (fun K hK => ?_) AllReadyH.nil
          go_simp
          go_wp2_with fail
          refine hK.out _ _ ?_ (fun hHeld => ?_)
          · exact HSET.out _ z ((show w5.grownBy w6 (some r) from ⟨g6.os, g6.tape, g6.output, g6.size, g6.block⟩).trans (grown_alloc w6 _ (some r)))
          clear hK K
          try simp only [List.getElem_toArray, List.getElem_cons_succ, List.getElem_cons_zero, Act.put, List.setIfInBounds_toArray, List.set_cons_zero, List.set_cons_succ]
          refine wpAnyH_done (by kernel_rfl) ?_ _
          refine NoPanic.normal ?_
          go_wp2_with fail
          go_ret
          exact HEND.out _ z (q' + 1 + 1) (by omega) ((show w5.grownBy w6 (some r) from ⟨g6.os, g6.tape, g6.output, g6.size, g6.block⟩).trans (grown_alloc w6 _ (some r))) (R6.far _)
      · have d0 : ((v : Int) == 0) = false := by rw [beq_eq_false_iff_ne]; omega
        by_cases hv1 : v = 1
        · subst hv1
          clear d0
          obtain ⟨A0, c0', rfl, _, _, _⟩ := i1
          have hblk : Blk (w5.alloc (.cells #[.int .i64 100, .int .i64 80, .int .i64 90, .int .i64 90] 3)) w5.heap.size 3 #[.int .i64 100, .int .i64 80, .int .i64 90, .int .i64 90] := Blk.new w5 _ _
          obtain ⟨w6, hw6⟩ : ∃ w6, w6 = w5.alloc (.cells #[.int .i64 100, .int .i64 80, .int .i64 90, .int .i64 90] 3) := ⟨_, rfl⟩
          have b6 : Below w5.heap.size w5 w6 := by rw [hw6]; exact (Below.refl _ _).alloc (Nat.le_refl _) _
          rw [← hw6] at hblk
          have hot6 := own_below2' HOt.out b6
          have hU : IntsG w6 w.heap.size (some gR) (.slice (some ⟨w5.heap.size, 0, none⟩) 4 4) [100, 80, 90, 90] := by
            refine ⟨_, 4, rfl, fun _ => ⟨w5.heap.size, 0, rfl, by omega, by intro e; have := Option.some.inj e; omega, hblk.lt, fun k x hk => ?_⟩, by simp, by unfold maxLen; omega⟩
            rw [Nat.zero_add, hblk.cell]
            match k, hk with
            | 0, hk => cases hk; rfl
            | 1, hk => cases hk; rfl
            | 2, hk => cases hk; rfl
            | 3, hk => cases hk; rfl
          obtain ⟨vs', hl', hV', hlen'⟩ := (HRt.out.below b6).setU hot6 HVs.out (by omega) hU (by simp)
          have HV' := Lib.hid hV'
          have HL' := Lib.hid hl'
          have HE' := Lib.hid hlen'
          have R6 := R5.below b6 R5.blk.lt
          have g6 : w.grownBy w6 (some r) := grown_below HGt.out (b6.mono HGt.out.size)
          have bset : Below w.heap.size w6 (w6.setCell ⟨gR, 0, none⟩ (.slice (some ⟨w5.heap.size, 0, none⟩) 4 4)) := below_set w6 0 _ hgR1
          have R7 := R6.below bset hr
          have g7 := grown_below g6 bset
          have HR7 := Lib.hid R7
          have HG7 := Lib.hid g7
          have HW6 := Lib.hid hw6
          have hc06 := (b6.cell (p := ⟨gR, 0, none⟩) hgR5).trans hc0
          have hf06 := hot6.frozenAt 0
          rw [hw6] at hc06 hf06
          clear hblk hot6 hU hV' hl' hlen' R6 g6 bset R7 g7 hot hrt gt e1 e2 o2 n2 hvsl hc0 hc1 hf0 R5 g5 hv0g
          subst hw6
          have hcomm : (w5.alloc (.cells #[.int .i64 100, .int .i64 80, .int .i64 90, .int .i64 90] 3)).setCell ⟨gR, 0, none⟩ (.slice (some ⟨w5.heap.size, 0, none⟩) 4 4) = (w5.setCell ⟨gR, 0, none⟩ (.slice (some ⟨w5.heap.size, 0, none⟩) 4 4)).alloc (.cells #[.int .i64 100, .int .i64 80, .int .i64 90, .int .i64 90] 3) := World.setCell_alloc_past _ _ _ _ hgR5
          rw [hcomm] at HV' HR7 HG7
          clear hcomm
          go_wp2_with fail
          go_ret
          exact ⟨some ⟨gR, 0, none⟩, vs', cR, q' + 1, by rw [HL'.out]; rfl, HV'.out, by rw [HL'.out]; omega, by rw [HL'.out]; exact hcR1, hcR2, HE'.out, by omega, HR7.out, HG7.out⟩
        · have d1 : ((v : Int) == 1) = false := by rw [beq_eq_false_iff_ne]; omega
          by_cases hv2 : v = 2
          · subst hv2
            clear d0 d1 e1 e2 i1 o2 n2 hot hrt gt hvsl hc0 hc1 hf0 hv0g
            have R6 := R5.far (.cells #[] 30)
            have g6 := HGt.out.trans (grown_alloc w5 (.cells #[] 30) (some r))
            have HR6 := Lib.hid R6
            have HG6 := Lib.hid g6
            clear R6 g6
            go_wp2_with fail
            go_ret
            exact ⟨_, [], 0, q' + 1, rfl, fun h => absurd rfl h, by simp, by simp, by unfold maxLen; omega, fun v hv => by simp at hv, by omega, HR6.out, HG6.out⟩
          · have d2 : ((v : Int) == 2) = false := by rw [beq_eq_false_iff_ne]; omega
            have hvf : VertsF w5 w.heap.size (some ⟨gR, 0, none⟩) vs := hrt.vertsF hot HVs.out
            have HVF := Lib.hid hvf
            clear e1 e2 i1 o2 n2 hot hrt gt hvsl hc0 hc1 hf0 hvf hv0g
            go_wp2_with fail
            go_ret
            exact ⟨some ⟨gR, 0, none⟩, vs, cR, q' + 1, by rw [HVs.out]; rfl, HVF.out, by rw [HVs.out]; omega, by rw [HVs.out]; exact hcR1, hcR2, HRt.out.lens, by omega, R5, HGt.out⟩
end Go.Proofs.Ytnccpifdajcejaa
