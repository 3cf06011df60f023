/- Sheets in memory: the stack at a place, the places of a fold. No condition but sizes. -/
import Derived.Test.YtmohfibgefcefaaGreatDoorStkB
namespace Go.Proofs.YtmohfibgefcefaaGreatDoor
open Go.RowKit

/-- slice values that read as stacks -/
def StkR (w : World) (vs : List Value) (Ss : List (List Cl)) : Prop := vs.length = Ss.length ∧ ∀ (k : Nat) (v : Value) (S : List Cl), vs[k]? = some v → Ss[k]? = some S → SlC w v S
theorem StkR.below {w w' : World} {vs : List Value} {Ss : List (List Cl)} (h : StkR w vs Ss) (hb : Below w.heap.size w w') : StkR w' vs Ss :=
  ⟨h.1, fun k v S h1 h2 => (h.2 k v S h1 h2).below hb⟩
theorem StkR.nil (w : World) : StkR w [] [] := ⟨rfl, fun k v S h1 _ => by simp at h1⟩
theorem StkR.snoc {w : World} {vs : List Value} {Ss : List (List Cl)} {v : Value} {S : List Cl} (h : StkR w vs Ss) (hv : SlC w v S) : StkR w (vs ++ [v]) (Ss ++ [S]) := by
  refine ⟨by simp [h.1], fun k u X h1 h2 => ?_⟩
  by_cases hk : k < vs.length
  · rw [List.getElem?_append_left hk] at h1
    rw [List.getElem?_append_left (by rw [← h.1]; exact hk)] at h2
    exact h.2 k u X h1 h2
  · rw [List.getElem?_append_right (by omega)] at h1
    rw [List.getElem?_append_right (by rw [← h.1]; omega), ← h.1] at h2
    cases hm : k - vs.length with
    | zero =>
      rw [hm] at h1 h2
      simp only [List.getElem?_cons_zero, Option.some.injEq] at h1 h2
      subst h1 h2
      exact hv
    | succ m => rw [hm] at h1; simp at h1
/-- a sheet in block r -/
structure ShM (w : World) (r : Nat) (S : Sh) : Prop where
  ex : ∃ A c vs, Blk w r 96 #[.int .i64 S.1, .int .i64 S.2.1, .slice A S.2.2.length c] ∧ RowV w A vs ∧ StkR w vs S.2.2 ∧ S.2.2.length ≤ c ∧ c ≤ maxLen
  len : S.2.2.length = S.1 * S.2.1
theorem ShM.below {w w' : World} {r : Nat} {S : Sh} (h : ShM w r S) (hb : Below w.heap.size w w') : ShM w' r S := by
  obtain ⟨A, c, vs, h1, h2, h3, h4, h5⟩ := h.ex
  exact ⟨⟨A, c, vs, h1.below hb h1.lt, h2.below hb, h3.below hb, h4, h5⟩, h.len⟩
theorem sh_idx {h w i j : Nat} (hi : i < h) (hj : j < w) : i * w + j < h * w := by
  have : (i + 1) * w ≤ h * w := Nat.mul_le_mul_right w (by omega)
  rw [Nat.succ_mul] at this
  omega
theorem shAt_get {S : Sh} (hl : S.2.2.length = S.1 * S.2.1) {i j : Nat} (hi : i < S.1) (hj : j < S.2.1) : S.2.2[i * S.2.1 + j]? = some (shAt S i j) := by
  have h := sh_idx hi hj
  unfold shAt
  rw [List.getElem?_eq_getElem (by omega)]; rfl
set_option maxHeartbeats 1000000 in
set_option maxRecDepth 100000 in
theorem impl_stackAt (r i j : Nat) (S : Sh) (w : World) (h : ShM w r S) (hi : i < S.1) (hj : j < S.2.1) (hm : S.1 * S.2.1 ≤ 4000) :
    Calls Tryz.prog 32 #[ptr r, .int .i64 i, .int .i64 j] w fun e w' => (∃ v, e = .returned (.agg #[v]) ∧ SlC w' v (shAt S i j)) ∧ Below w.heap.size w w' := by
  obtain ⟨A, c, vs, h1, h2, h3, h4, h5⟩ := h.ex
  have hx := shAt_get h.len hi hj
  have hlt := sh_idx hi hj
  have hln := h.len
  obtain ⟨v, hv⟩ : ∃ v, vs[i * S.2.1 + j]? = some v := ⟨_, List.getElem?_eq_getElem (by rw [h3.1]; omega)⟩
  have hS := h3.2 _ _ _ hv hx
  obtain ⟨b, off, rfl, hb, hc⟩ := h2 (show vs ≠ [] from fun e => by rw [e] at hv; simp at hv)
  have cc := hc _ _ hv
  obtain ⟨Av, cv, rfl, hS2⟩ := hS
  obtain ⟨T, hT⟩ : ∃ T, T = shAt S i j := ⟨_, rfl⟩
  rw [← hT] at hS2 cc hv ⊢
  have HS : Hid (SlC w (.slice Av T.length cv) T) := ⟨Av, cv, rfl, hS2⟩
  have c1 : w.cell? ⟨r, 1, none⟩ = some (.int .i64 S.2.1) := h1.cell 1
  have c2 : w.cell? ⟨r, 2, none⟩ = some (.slice (some ⟨b, off, none⟩) S.2.2.length c) := h1.cell 2
  have hrl := h1.lt
  obtain ⟨W, hW⟩ : ∃ W, W = S.2.1 := ⟨_, rfl⟩
  obtain ⟨N, hN⟩ : ∃ N, N = S.2.2.length := ⟨_, rfl⟩
  rw [← hW] at c1 cc hlt hj hln hm
  rw [← hN] at c2 hln
  obtain ⟨P, hP⟩ : ∃ P, P = i * W := ⟨_, rfl⟩
  obtain ⟨M, hM⟩ : ∃ M, M = S.1 * W := ⟨_, rfl⟩
  rw [← hP] at cc hlt
  rw [← hM] at hlt hln hm
  have kw : IntKind.i64.wrap ((i : Int) * (W : Int)) = (P : Int) := by
    have : (i : Int) * (W : Int) = (P : Int) := by rw [hP, Int.natCast_mul]
    rw [this]; exact IntWalk.i64_in _ (by omega)
  have kw2 : IntKind.i64.wrap ((P : Int) + (j : Int)) = (P : Int) + (j : Int) := IntWalk.i64_in _ (by omega)
  have k0 : (0 : Int) ≤ (P : Int) + (j : Int) := by omega
  have k1 : (P : Int) + (j : Int) < (N : Int) := by omega
  have kt : ((P : Int) + (j : Int)).toNat = P + j := by omega
  have HB : Hid (Below w.heap.size w (w.alloc (.cells #[.slice none 0 0] 61))) := (Below.refl _ _).alloc (Nat.le_refl _) _
  have d1 := (HB.out.cell (p := ⟨r, 1, none⟩) hrl).trans c1
  have d2 := (HB.out.cell (p := ⟨r, 2, none⟩) hrl).trans c2
  have d3 := (HB.out.cell (p := ⟨b, off + (P + j), none⟩) hb).trans cc
  clear hS2 hc hv hx h1 h2 h3 h hln hM hP hN hW hT h4 h5 hi
  go_enter Tryz.func32, Tryz.ntmps32
  go_wp2_with fail
  go_region
  all_goals
    go_wp2_with fail
    refine bodyPost_ret (v := .agg #[.slice Av T.length cv]) (by simp [results, Tryz.results32, go_sem]) rfl ⟨⟨_, rfl, ?_⟩, ?_⟩
    · exact HS.out.below (below_drewN ((Below.refl _ _).alloc (Nat.le_refl _) _) 1)
    · exact below_drewN ((Below.refl _ _).alloc (Nat.le_refl _) _) 1
set_option maxHeartbeats 400000 in
theorem impl_foldedPlaces (i half : Nat) (first : Bool) (w : World) (hi : i < half) (hh : half ≤ 1000) :
    Calls Tryz.prog 102 #[.int .i64 i, .int .i64 half, .bool first] w fun e w' => e = .returned (.tuple #[.int .i64 (stay i half first : Nat), .int .i64 (moved i half first : Nat)]) ∧ w = w' := by
  cases first with
  | true =>
    have e1 : ((stay i half true : Nat) : Int) = (half : Int) + (i : Int) := by unfold stay; rw [if_pos rfl]; omega
    have e2 : ((moved i half true : Nat) : Int) = (half : Int) - 1 - (i : Int) := by unfold moved; rw [if_pos rfl]; omega
    rw [e1, e2]
    go_enter Tryz.func102, Tryz.ntmps102
    go_wp2_with fail
    go_ret2
    exact ⟨rfl, rfl⟩
  | false =>
    have e1 : ((stay i half false : Nat) : Int) = (i : Int) := by unfold stay; rw [if_neg (by decide)]
    have e2 : ((moved i half false : Nat) : Int) = 2 * (half : Int) - 1 - (i : Int) := by unfold moved; rw [if_neg (by decide)]; omega
    rw [e1, e2]
    go_enter Tryz.func102, Tryz.ntmps102
    go_wp2_with fail
    go_ret2
    exact ⟨rfl, rfl⟩
end Go.Proofs.YtmohfibgefcefaaGreatDoor
