/- append of a slice of integers, nil or not, to a row of the call's own; a cut of a slice that reads as a list. No condition. -/
import Derived.Test.YtngpeehjjcgmmaaBase
import Derived.Deep.RegionLaw
import Derived.Deep.RegionHeld3
namespace Go.Proofs.Ytngpeehjjcgmmaa
open Go.RowKit

theorem run_app_nil {P : Program} (w : World) (B : Nat) (t ty e : TypeId) (i : TypeInfo) (size : Nat) (ht : P.underlying t = some (.slice e)) (hi : P.info? e = some i)
    (v : Value) (n : Nat) (xs : List Value) (hown : w.ownsRow B e size v n xs) (c : Nat) : (Builtin.append_ #[t, t] ty #[v, .slice none 0 c]).run P w = .ok v w := by
  rcases hown.2 with ⟨rfl, rfl⟩ | ⟨g, cap, cur, rfl, _, _, hnc, _⟩
  · simp [Builtin.append_, run_underlying ht, sizeOf, typeInfo, hi, Builtin.lenOf, Builtin.firstCells]
  · simp [Builtin.append_, run_underlying ht, sizeOf, typeInfo, hi, Builtin.lenOf, Builtin.firstCells, hnc, storeCells]

theorem run_app (W : World) (B : Nat) (ty : TypeId) (v : Value) (xs ys : List Int) (A : Option Addr) (c : Nat) (hown : Own W B v xs) (hr : Ints W A ys) (hB : B ≤ W.heap.size)
    (hn : xs.length + ys.length ≤ 1000000000000) :
    ∃ v' w', (Builtin.append_ #[23, 23] ty #[v, .slice A ys.length c]).run Try.prog W = .ok v' w' ∧ Own w' B v' (xs ++ ys) ∧ W.grownBy w' v.ownBlock ∧ Below B W w' := by
  obtain ⟨i0, hi, hz0, hz1, hz2⟩ := info_parts Try.infoInt
  cases A with
  | none =>
    have hy : ys = [] := by
      apply Classical.byContradiction
      intro hne
      obtain ⟨b, off, e, _⟩ := hr hne
      cases e
    subst hy
    exact ⟨v, W, run_app_nil W B _ ty _ i0 1 Try.underlying23 hi v _ _ hown c, by simpa using hown, World.grownBy.refl W _, Below.refl _ _⟩
  | some ad =>
    obtain ⟨v', w', hrun, h2, h3, _⟩ := run_append_own (P := Try.prog) W B 23 ty 3 i0 (.int .i64 0) 1 8 Try.underlying23 hi hz0 hz1 hz2 rfl (by decide) v _ _ hown ad ys.length c (ys.map (Value.int .i64))
      (by simp) (by
        intro j u hu
        have hne : ys ≠ [] := by intro e; subst e; simp at hu
        obtain ⟨b, off, e, _, hc⟩ := hr hne
        have e2 : ad = ⟨b, off, none⟩ := Option.some.inj e
        rw [List.getElem?_map] at hu
        cases hy : ys[j]? with
        | none => simp only [hy, Option.map_none, reduceCtorEq] at hu
        | some y =>
          simp only [hy, Option.map_some, Option.some.injEq] at hu
          rw [← hu, e2, Addr.add_lit]
          exact hc j y hy) (ints_oneCell _ _) (by unfold maxLen; omega) (by omega) hB
    exact ⟨v', w', hrun, by simpa [Own] using h2, h3, (Below.refl _ _).grown h3 hB fun k hk => (hown.lt k hk).1⟩

theorem wp_app {o : Oper} {a : Act} {W : World} {K : Act → World → Prop} {Q : Exit → Act → World → Prop} (s x : Operand)
    (ho : o.op = .call { callee := .builtin .append, args := #[s, x], argTypes := #[23, 23] })
    (B : Nat) (v : Value) (xs ys : List Int) (A : Option Addr) (c : Nat) (hs : a.eval s = v) (m : Nat) (hm : ys.length = m) (hx : a.eval x = .slice A m c) (hown : Own W B v xs) (hr : Ints W A ys) (hB : B ≤ W.heap.size)
    (hn : xs.length + ys.length ≤ 1000000000000)
    (h : ∀ v' w', Own w' B v' (xs ++ ys) → W.grownBy w' v.ownBlock → Below B W w' → K (a.put o.dst v') w') : o.wp Try.prog a W K Q := by
  subst hm
  obtain ⟨v', w', hrun, h2, h3, h4⟩ := run_app W B o.type v xs ys A c hown hr hB hn
  unfold Oper.wp execOp
  simp only [ho, resolve, invoke, builtin, Sem.run_bind, Sem.run_pure, Result.andThen_ok, List.map_toArray, List.map_cons, List.map_nil, hs, hx, hrun]
  exact h v' w' h2 h3 h4

theorem wpList_app {ops : Array Oper} {rest : List Oper} {o : Oper} {a : Act} {W : World} {Q : Exit → Act → World → Prop} (hgd : o.guard = none) (s x : Operand)
    (ho : o.op = .call { callee := .builtin .append, args := #[s, x], argTypes := #[23, 23] })
    (B : Nat) (v : Value) (xs ys : List Int) (A : Option Addr) (c : Nat) (hs : a.eval s = v) (m : Nat) (hm : ys.length = m) (hx : a.eval x = .slice A m c) (hown : Own W B v xs) (hr : Ints W A ys) (hB : B ≤ W.heap.size)
    (hn : xs.length + ys.length ≤ 1000000000000)
    (h : ∀ v' w', Own w' B v' (xs ++ ys) → W.grownBy w' v.ownBlock → Below B W w' → wpList Try.prog ops Q rest (a.put o.dst v') w') : wpList Try.prog ops Q (o :: rest) a W :=
  wpList_plain hgd fun _ hK => wp_app s x ho B v xs ys A c hs m hm hx hown hr hB hn fun v' w' h2 h3 h4 => hK _ _ (h v' w' h2 h3 h4)

theorem step_app {ops : Array Oper} {o : Oper} {a : Act} {W : World} {K : Act → World → Prop} {Q : Exit → Act → World → Prop} {E : Prop} (hgd : o.guard = none) (s x : Operand)
    (ho : o.op = .call { callee := .builtin .append, args := #[s, x], argTypes := #[23, 23] })
    (B : Nat) (v : Value) (xs ys : List Int) (A : Option Addr) (c : Nat) (hs : a.eval s = v) (m : Nat) (hm : ys.length = m) (hx : a.eval x = .slice A m c) (hown : Own W B v xs) (hr : Ints W A ys) (hB : B ≤ W.heap.size)
    (hn : xs.length + ys.length ≤ 1000000000000)
    (h : ∀ v' w', Own w' B v' (xs ++ ys) → W.grownBy w' v.ownBlock → Below B W w' → K (a.put o.dst v') w') :
    if Region.wanted o (yielded ops a.tmps) = true then Oper.wp Try.prog o a W K Q else E := by
  have hw : Region.wanted o (yielded ops a.tmps) = true := by simp [Region.wanted, hgd]
  rw [if_pos hw]
  exact wp_app s x ho B v xs ys A c hs m hm hx hown hr hB hn h

theorem own_one (w : World) {B : Nat} (z : Int) (hB : B ≤ w.heap.size) : Own (w.alloc (.cells #[.int .i64 z] 3)) B (.slice (some ⟨w.heap.size, 0, none⟩) 1 1) [z] :=
  World.ownsRow_lit w #[.int .i64 z] 1 hB (by unfold maxLen; omega) rfl

/-- a cut of a slice that reads as a list, its address written out -/
theorem Ints.cut {w : World} {b off : Nat} {xs : List Int} (h : Ints w (some ⟨b, off, none⟩) xs) (lo m : Nat) : Ints w (some ⟨b, off + lo, none⟩) ((xs.drop lo).take m) := by
  intro hn
  obtain ⟨b', off', e, hb, hc⟩ := h (by intro e; subst e; simp at hn)
  injection e with e
  injection e with e1 e2
  subst e1 e2
  refine ⟨b, off + lo, rfl, hb, fun k x hx => ?_⟩
  rw [List.getElem?_take] at hx
  split at hx
  · rw [List.getElem?_drop] at hx
    rw [Nat.add_assoc]
    exact hc _ _ hx
  · cases hx

end Go.Proofs.Ytngpeehjjcgmmaa
