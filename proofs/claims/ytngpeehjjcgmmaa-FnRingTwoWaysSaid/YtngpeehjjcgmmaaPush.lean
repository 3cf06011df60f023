/- append of one integer to a row of the call's own, told where the row lies behind it. No condition but sizes. -/
import Derived.Test.YtngpeehjjcgmmaaSeg
namespace Go.Proofs.Ytngpeehjjcgmmaa
open Go.RowKit

theorem own_base {w : World} {B B' : Nat} {e : TypeId} {z n : Nat} {v : Value} {xs : List Value} (h : w.ownsRow B e z v n xs) (hB : ∀ g, v.ownBlock = some g → B' ≤ g) : w.ownsRow B' e z v n xs := by
  obtain ⟨h1, h2⟩ := h
  refine ⟨h1, ?_⟩
  rcases h2 with h0 | ⟨g, cap, cur, e1, hb, rest⟩
  · exact Or.inl h0
  · exact Or.inr ⟨g, cap, cur, e1, hB g (by rw [e1]; rfl), rest⟩
/-- a row that lies below b1 or from b2 on -/
def Apart (v : Value) (b1 b2 : Nat) : Prop := ∀ g, v.ownBlock = some g → g < b1 ∨ b2 ≤ g

theorem run_push2 (W : World) (B : Nat) (ty : TypeId) (v : Value) (xs : List Int) (x : Int) (hown : Own W B v xs) (hB : B ≤ W.heap.size) (ad : Addr) (c : Nat) (hx : W.cell? (ad.add 0) = some (.int .i64 x)) (hn : xs.length ≤ 1000000000000) :
    ∃ v' w', (Builtin.append_ #[23, 23] ty #[v, .slice (some ad) 1 c]).run Try.prog W = .ok v' w' ∧ Own w' B v' (xs ++ [x]) ∧ W.grownBy w' v.ownBlock ∧ (v'.ownBlock = v.ownBlock ∨ ∀ g, v'.ownBlock = some g → W.heap.size ≤ g) := by
  obtain ⟨i0, hi, hz0, hz1, hz2⟩ := info_parts Try.infoInt
  have hnews : ∀ j u, [Value.int .i64 x][j]? = some u → W.cell? (ad.add j) = some u := by
    intro j u hj
    match j, hj with
    | 0, hj => cases hj; exact hx
  have h1c : ∀ u ∈ [Value.int .i64 x], u.oneCell' = true := by intro u hu; simp at hu; subst hu; rfl
  obtain ⟨v', w', hrun, h2, h3, _⟩ := run_append_own (P := Try.prog) W B 23 ty 3 i0 (.int .i64 0) 1 8 Try.underlying23 hi hz0 hz1 hz2 rfl (by decide) v _ _ hown ad 1 c [.int .i64 x] rfl hnews h1c (by unfold maxLen; omega) (by omega) hB
  have ho : Own w' B v' (xs ++ [x]) := by simpa [Own] using h2
  refine ⟨v', w', hrun, ho, h3, ?_⟩
  rcases hown.2 with ⟨rfl, h0⟩ | ⟨g, cap, cur, rfl, hb, hg, hnc, hcm, hcs, htake⟩
  · right
    have hx0 : xs = [] := List.eq_nil_of_length_eq_zero h0
    subst hx0
    obtain ⟨v2, w2, hrun2, h22, _, _⟩ := run_append_own (P := Try.prog) W W.heap.size 23 ty 3 i0 (.int .i64 0) 1 8 Try.underlying23 hi hz0 hz1 hz2 rfl (by decide) (.slice none 0 0) 0 [] ⟨rfl, Or.inl ⟨rfl, rfl⟩⟩ ad 1 c [.int .i64 x] rfl hnews h1c (by unfold maxLen; omega) (by omega) (Nat.le_refl _)
    rw [hrun2] at hrun
    injection hrun with e1 e2
    subst e1 e2
    exact fun g hg => (h22.lt g hg).1
  · by_cases hr : xs.length + 1 ≤ cap
    · left
      have hlt : xs.length < cur.size := by omega
      have hrun2 := run_append_room_cells (P := Try.prog) W 23 ty 3 i0 Try.underlying23 hi g 0 xs.length cap ad 1 c [.int .i64 x] (by rw [hz1]; rfl) hnews h1c hr
        (by intro j hj
            rw [hz1]; simp at hj; subst hj
            rw [cell_of_row W g _ cur 3 (0, 0) hg]
            simp [Array.getElem?_eq_getElem hlt]) (by intro j _; simp [World.frozen?, hg])
      rw [hrun2] at hrun
      have e1 := (Result.ok.injEq _ _ _ _ ▸ hrun).1
      rw [← e1]
      simp [Value.ownBlock]
    · right
      have hI : Ints W (some ⟨g, 0, none⟩) xs := Ints.of_own hown
      obtain ⟨v2, w2, hrun2, hown2, _⟩ := run_append_arg_grows (P := Try.prog) W 23 ty 3 i0 (.int .i64 0) 1 8 Try.underlying23 hi hz0 hz1 hz2 rfl (by decide) ⟨g, 0, none⟩ xs.length cap (xs.map (Value.int .i64)) (by simp)
        (by intro j u hj
            have := hown.cells (g := g) rfl j u hj
            exact this)
        ad 1 c [.int .i64 x] rfl hnews (by omega) (by unfold maxLen; omega) (by omega)
      rw [hrun2] at hrun
      injection hrun with e1 e2
      subst e1 e2
      exact fun q hq => (hown2.lt q hq).1

theorem wpList_push2 {ops : Array Oper} {rest : List Oper} {o : Oper} {a : Act} {Q : Exit → Act → World → Prop} {W : World} (hgd : o.guard = none) (s x : Operand)
    (ho : o.op = .call { callee := .builtin .append, args := #[s, x], argTypes := #[23, 23] })
    (B b1 b2 : Nat) (v : Value) (xs : List Int) (z : Int) (hs : a.eval s = v) (hx : a.eval x = .slice (some ⟨W.heap.size, 0, none⟩) 1 1) (hown : Own W B v xs) (hB : B ≤ W.heap.size) (hap : Apart v b1 b2) (hb2 : b2 ≤ W.heap.size) (hn : xs.length ≤ 1000000000000)
    (h : ∀ v' w', Own w' B v' (xs ++ [z]) → W.grownBy w' v.ownBlock → Below B W w' → Apart v' b1 b2 → wpList Try.prog ops Q rest (a.put o.dst v') w') :
    wpList Try.prog ops Q (o :: rest) a (W.alloc (.cells #[.int .i64 z] 3)) := by
  refine wpList_plain hgd fun _ hK => ?_
  obtain ⟨v', w', hrun, h2, h3, h4⟩ := run_push2 (W.alloc (.cells #[.int .i64 z] 3)) B o.type v xs z (hown.alloc _) (Nat.le_trans hB (by simp)) ⟨W.heap.size, 0, none⟩ 1 (new_cell0 W _ _) hn
  have hg' : W.grownBy w' v.ownBlock := ⟨h3.os, h3.tape, h3.output, Nat.le_trans (by simp) h3.size, fun k hk hne => (h3.block k (by simp; omega) hne).trans (Below.heap_alloc W _ k hk)⟩
  have hap' : Apart v' b1 b2 := by
    intro g hg
    rcases h4 with e | e
    · exact hap g (by rw [← e]; exact hg)
    · right
      have := e g hg
      simp at this
      omega
  unfold Oper.wp execOp
  simp only [ho, resolve, invoke, builtin, Sem.run_bind, Sem.run_pure, Result.andThen_ok, List.map_toArray, List.map_cons, List.map_nil, hs, hx, hrun]
  exact hK _ _ (h v' w' h2 hg' ((Below.refl _ _).grown hg' hB fun k hk => (hown.lt k hk).1) hap')
end Go.Proofs.Ytngpeehjjcgmmaa
