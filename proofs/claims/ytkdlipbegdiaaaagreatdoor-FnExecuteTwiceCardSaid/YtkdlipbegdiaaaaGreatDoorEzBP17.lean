/- Rows of rows of stacks in memory. No condition but sizes. -/
import Derived.Test.YtkdlipbegdiaaaaGreatDoorEzBP16
namespace Go.Proofs.YtkdlipbegdiaaaaGreatDoor
open Go.RowKit
/-- a row of stacks, apart of a block -/
structure DeepR (w : World) (ob : Option Nat) (u : Value) (Ss : List (List Cl)) : Prop where
  ex : ∃ A c us, u = .slice A Ss.length c ∧ RowV w A us ∧ StkR w us Ss ∧ Ss.length ≤ c ∧ c ≤ maxLen ∧ ∀ v ∈ us, ∀ g, v.ownBlock = some g → ob ≠ some g
  apart : ∀ g, u.ownBlock = some g → ob ≠ some g
theorem DeepR.below {w w' : World} {ob : Option Nat} {u : Value} {Ss : List (List Cl)} (h : DeepR w ob u Ss) (hb : Below w.heap.size w w') : DeepR w' ob u Ss := by
  obtain ⟨⟨A, c, us, e, hr, hs, h1, h2, h3⟩, h4⟩ := h
  exact ⟨⟨A, c, us, e, hr.below hb, hs.below hb, h1, h2, h3⟩, h4⟩
theorem RowV.grown {w w' : World} {A : Option Addr} {n c : Nat} {L : List Value} {row : Option Nat} (h : RowV w A L) (hg : w.grownBy w' row) (hne : ∀ g, (Value.slice A n c).ownBlock = some g → row ≠ some g) : RowV w' A L := by
  intro hn
  obtain ⟨b, off, rfl, hb, hc⟩ := h hn
  exact ⟨b, off, rfl, Nat.lt_of_lt_of_le hb hg.size, fun j u hj => (hg.cell_far ⟨b, off + j, none⟩ hb (fun e => hne b rfl e.symm)).trans (hc j u hj)⟩
theorem DeepR.grown {w w' : World} {ob : Option Nat} {u : Value} {Ss : List (List Cl)} (h : DeepR w ob u Ss) (hg : w.grownBy w' ob) : DeepR w' ob u Ss := by
  obtain ⟨⟨A, c, us, rfl, hr, hs, h1, h2, h3⟩, h4⟩ := h
  exact ⟨⟨A, c, us, rfl, hr.grown hg h4, ⟨hs.1, fun k v S a b => (hs.2 k v S a b).grown hg (h3 v (List.mem_of_getElem? a))⟩, h1, h2, h3⟩, h4⟩
theorem DeepR.moved {w : World} {ob ob' : Option Nat} {u : Value} {Ss : List (List Cl)} (h : DeepR w ob u Ss) (hn : Ss ≠ []) (hne : ∀ S ∈ Ss, S ≠ []) (hm : ob' = ob ∨ ∀ g, ob' = some g → w.heap.size ≤ g) : DeepR w ob' u Ss := by
  rcases hm with rfl | hm
  · exact h
  obtain ⟨⟨A, c, us, rfl, hr, hs, h1, h2, h3⟩, h4⟩ := h
  refine ⟨⟨A, c, us, rfl, hr, hs, h1, h2, fun v hv g e e2 => ?_⟩, fun g e e2 => ?_⟩
  · have q := hm g e2
    obtain ⟨k, hk⟩ := List.getElem?_of_mem hv
    have hlt : k < Ss.length := by rw [← hs.1]; exact (List.getElem?_eq_some_iff.1 hk).1
    have := sl_lt (hs.2 k v _ hk (List.getElem?_eq_getElem hlt)) (hne _ (List.getElem_mem hlt)) g e
    omega
  · have q := hm g e2
    have hus : us ≠ [] := by
      intro e3
      rw [e3] at hs
      exact hn (List.eq_nil_of_length_eq_zero hs.1.symm)
    obtain ⟨b, off, rfl, hb, _⟩ := hr hus
    cases e
    exact absurd hb (Nat.not_lt.2 q)
theorem DeepR.free {w : World} {ob : Option Nat} {u : Value} {Ss : List (List Cl)} (h : DeepR w ob u Ss) : DeepR w none u Ss := by
  obtain ⟨⟨A, c, us, e, hr, hs, h1, h2, h3⟩, h4⟩ := h
  exact ⟨⟨A, c, us, e, hr, hs, h1, h2, fun _ _ _ _ e => by cases e⟩, fun _ _ e => by cases e⟩
theorem rowV_same {w : World} {A : Option Addr} {L L' : List Value} (h : RowV w A L) (h' : RowV w A L') (hl : L.length = L'.length) : L = L' := by
  apply List.ext_getElem?
  intro k
  by_cases hk : k < L.length
  · obtain ⟨b, off, e, _, hc⟩ := h (show L ≠ [] from fun e => by subst e; simp at hk)
    obtain ⟨b', off', e', _, hc'⟩ := h' (show L' ≠ [] from fun e => by rw [e, List.length_nil] at hl; omega)
    rw [e] at e'
    cases e'
    have q1 := hc k _ (List.getElem?_eq_getElem hk)
    have hk' : k < L'.length := by omega
    have q2 := hc' k _ (List.getElem?_eq_getElem hk')
    rw [q1] at q2
    rw [List.getElem?_eq_getElem hk, List.getElem?_eq_getElem hk']
    exact q2
  · rw [List.getElem?_eq_none (by omega), List.getElem?_eq_none (by omega)]
/-- apart of both: kept behind what touches the one, told apart of the other -/
theorem DeepR.both {w w' : World} {ob ob' : Option Nat} {u : Value} {Ss : List (List Cl)} (h : DeepR w ob u Ss) (hg : w.grownBy w' ob) (h' : DeepR w ob' u Ss) (_hn : Ss ≠ []) : DeepR w' ob' u Ss := by
  obtain ⟨⟨A, c, us, rfl, hr, hs, h1, h2, h3⟩, h4⟩ := h
  obtain ⟨⟨A', c', us', e', hr', hs', h1', h2', h3'⟩, h4'⟩ := h'
  cases e'
  have hus : us = us' := rowV_same hr hr' (by rw [hs.1, hs'.1])
  subst hus
  exact ⟨⟨A, c, us, rfl, hr.grown hg h4, ⟨hs.1, fun k v S a b => (hs.2 k v S a b).grown hg (h3 v (List.mem_of_getElem? a))⟩, h1, h2, h3'⟩, h4'⟩
/-- rows of stacks, apart of a block -/
def GrdR (w : World) (ob : Option Nat) (vs : List Value) (G : List (List (List Cl))) : Prop := vs.length = G.length ∧ ∀ (i : Nat) (u : Value) (Ss : List (List Cl)), vs[i]? = some u → G[i]? = some Ss → DeepR w ob u Ss
theorem GrdR.below {w w' : World} {ob : Option Nat} {vs : List Value} {G : List (List (List Cl))} (h : GrdR w ob vs G) (hb : Below w.heap.size w w') : GrdR w' ob vs G := ⟨h.1, fun i u Ss a b => (h.2 i u Ss a b).below hb⟩
theorem GrdR.grown {w w' : World} {ob : Option Nat} {vs : List Value} {G : List (List (List Cl))} (h : GrdR w ob vs G) (hg : w.grownBy w' ob) : GrdR w' ob vs G := ⟨h.1, fun i u Ss a b => (h.2 i u Ss a b).grown hg⟩
theorem GrdR.nil (w : World) (ob : Option Nat) : GrdR w ob [] [] := ⟨rfl, fun i u Ss a _ => by simp at a⟩
theorem GrdR.snoc {w : World} {ob : Option Nat} {vs : List Value} {G : List (List (List Cl))} {u : Value} {Ss : List (List Cl)} (h : GrdR w ob vs G) (hu : DeepR w ob u Ss) : GrdR w ob (vs ++ [u]) (G ++ [Ss]) := by
  refine ⟨by simp [h.1], fun k v X h1 h2 => ?_⟩
  by_cases hk : k < vs.length
  · rw [List.getElem?_append_left hk] at h1
    rw [List.getElem?_append_left (by rw [← h.1]; exact hk)] at h2
    exact h.2 k v X h1 h2
  · rw [List.getElem?_append_right (by omega)] at h1
    rw [List.getElem?_append_right (by rw [← h.1]; omega), ← h.1] at h2
    cases hm : k - vs.length with
    | zero =>
      rw [hm] at h1 h2
      simp only [List.getElem?_cons_zero, Option.some.injEq] at h1 h2
      subst h1 h2
      exact hu
    | succ m => rw [hm] at h1; simp at h1
theorem GrdR.moved {w : World} {ob ob' : Option Nat} {vs : List Value} {G : List (List (List Cl))} (h : GrdR w ob vs G) (hn : ∀ Ss ∈ G, Ss ≠ [] ∧ ∀ S ∈ Ss, S ≠ []) (hm : ob' = ob ∨ ∀ g, ob' = some g → w.heap.size ≤ g) : GrdR w ob' vs G :=
  ⟨h.1, fun i u Ss a b => (h.2 i u Ss a b).moved (hn _ (List.mem_of_getElem? b)).1 (hn _ (List.mem_of_getElem? b)).2 hm⟩
/-- the same behind an append to the row of rows -/
theorem GrdR.appended {w w' : World} {s s' : Value} {vs : List Value} {G : List (List (List Cl))} (h : GrdR w s.ownBlock vs G) (hn : ∀ Ss ∈ G, Ss ≠ [] ∧ ∀ S ∈ Ss, S ≠ []) (hg : w.grownBy w' s.ownBlock) (hm : MovedX w s s') : GrdR w' s'.ownBlock vs G := by
  refine ⟨h.1, fun i u Ss a b => ?_⟩
  have h3 := (h.2 i _ Ss a b).moved (ob' := s'.ownBlock) (hn _ (List.mem_of_getElem? b)).1 (hn _ (List.mem_of_getElem? b)).2 hm
  exact (h.2 i _ Ss a b).both hg h3 (hn _ (List.mem_of_getElem? b)).1
theorem GrdR.free {w : World} {ob : Option Nat} {vs : List Value} {G : List (List (List Cl))} (h : GrdR w ob vs G) : GrdR w none vs G := ⟨h.1, fun i u Ss a b => (h.2 i u Ss a b).free⟩
/-- rows of a sheet -/
def nestTo (n : Nat) (F : Nat → Nat → List Cl) (i : Nat) : List (List (List Cl)) := (List.range i).map fun a => (List.range n).map (F a)
theorem nestTo_succ (n : Nat) (F : Nat → Nat → List Cl) (i : Nat) : nestTo n F (i + 1) = nestTo n F i ++ [(List.range n).map (F i)] := by
  unfold nestTo; rw [List.range_succ, List.map_append]; rfl
theorem nestTo_len (n : Nat) (F : Nat → Nat → List Cl) (i : Nat) : (nestTo n F i).length = i := by unfold nestTo; simp
def nest (S : Sh) : List (List (List Cl)) := nestTo S.2.1 (shAt S) S.1
theorem gridTo_get (n : Nat) (F : Nat → Nat → List Cl) (R : Nat) {i j : Nat} (hi : i < R) (hj : j < n) : (gridTo n F R 0)[i * n + j]? = some (F i j) := by
  induction R with
  | zero => omega
  | succ R ih =>
    have h1 : gridTo n F (R + 1) 0 = gridTo n F R 0 ++ (List.range n).map (F R) := by
      rw [← gridTo_row, gridTo_end]; rfl
    rw [h1]
    have hl : (gridTo n F R 0).length = R * n := by rw [gridTo_len]; rfl
    by_cases hlt : i < R
    · have := sh_idx hlt hj
      rw [List.getElem?_append_left (by omega)]
      exact ih hlt
    · obtain rfl : i = R := by omega
      rw [List.getElem?_append_right (by omega), hl, show i * n + j - i * n = j from by omega]
      simp [hj]
theorem nest_grid (n : Nat) (F : Nat → Nat → List Cl) (R : Nat) : nest (R, n, gridTo n F R 0) = nestTo n F R := by
  unfold nest nestTo
  apply List.map_congr_left
  intro i hi
  rw [List.mem_range] at hi
  apply List.map_congr_left
  intro j hj
  rw [List.mem_range] at hj
  unfold shAt
  show ((gridTo n F R 0)[i * n + j]?).getD [] = F i j
  rw [gridTo_get n F R hi hj]; rfl
/-- a grid of stacks -/
def GridV (w : World) (v : Value) (S : Sh) : Prop := ∃ A c vs, v = .slice A S.1 c ∧ RowV w A vs ∧ GrdR w none vs (nest S) ∧ S.1 ≤ c ∧ c ≤ maxLen
theorem GridV.below {w w' : World} {v : Value} {S : Sh} (h : GridV w v S) (hb : Below w.heap.size w w') : GridV w' v S := by
  obtain ⟨A, c, vs, e, hr, hg, h1, h2⟩ := h
  exact ⟨A, c, vs, e, hr.below hb, hg.below hb, h1, h2⟩
/-- the stack at a place of a grid, as it lies -/
theorem GridV.at_ {w : World} {b off c : Nat} {S : Sh} (h : GridV w (.slice (some ⟨b, off, none⟩) S.1 c) S) {i j : Nat} (hi : i < S.1) (hj : j < S.2.1) :
    ∃ b2 o2 c2 A3 c3, b < w.heap.size ∧ b2 < w.heap.size ∧ w.cell? ⟨b, off + i, none⟩ = some (.slice (some ⟨b2, o2, none⟩) S.2.1 c2) ∧ w.cell? ⟨b2, o2 + j, none⟩ = some (.slice A3 (shAt S i j).length c3) ∧ RowV w A3 (clL (shAt S i j)) := by
  obtain ⟨A, c', vs, e, hr, hg, _, _⟩ := h
  cases e
  have hln : vs.length = S.1 := by rw [hg.1]; unfold nest; exact nestTo_len _ _ _
  obtain ⟨u, hu⟩ : ∃ u, vs[i]? = some u := ⟨_, List.getElem?_eq_getElem (by omega)⟩
  have hG : (nest S)[i]? = some ((List.range S.2.1).map (shAt S i)) := by unfold nest nestTo; simp [hi]
  obtain ⟨⟨A2, c2, us, rfl, hr2, hs2, _, _, _⟩, _⟩ := hg.2 i u _ hu hG
  have hl2 : ((List.range S.2.1).map (shAt S i)).length = S.2.1 := by simp
  rw [hl2] at hu
  obtain ⟨v, hv⟩ : ∃ v, us[j]? = some v := ⟨_, List.getElem?_eq_getElem (by rw [hs2.1, hl2]; exact hj)⟩
  obtain ⟨A3, c3, rfl, hr3⟩ := sl_len (hs2.2 j v (shAt S i j) hv (by simp [hj]))
  obtain ⟨b', off', e', hb, hc⟩ := hr (show vs ≠ [] from fun e => by rw [e] at hu; simp at hu)
  cases e'
  obtain ⟨b2, o2, rfl, hb2, hc2⟩ := hr2 (show us ≠ [] from fun e => by rw [e] at hv; simp at hv)
  exact ⟨b2, o2, c2, A3, c3, hb, hb2, hc i _ hu, hc2 j _ hv, hr3⟩
theorem GridV.form {w : World} {v : Value} {S : Sh} (h : GridV w v S) (h1 : 0 < S.1) : ∃ b off c, v = .slice (some ⟨b, off, none⟩) S.1 c := by
  obtain ⟨A, c, vs, rfl, hr, hg, _, _⟩ := h
  have hln : vs.length = S.1 := by rw [hg.1]; unfold nest; exact nestTo_len _ _ _
  obtain ⟨b, off, rfl, _, _⟩ := hr (show vs ≠ [] from fun e => by rw [e] at hln; simp at hln; omega)
  exact ⟨b, off, c, rfl⟩
end Go.Proofs.YtkdlipbegdiaaaaGreatDoor
