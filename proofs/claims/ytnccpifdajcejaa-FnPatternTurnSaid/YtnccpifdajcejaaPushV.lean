/- append of vertices to a row of the call's own, told where the row lies behind it; cells that hold vertices. No condition but sizes. -/
import Derived.Test.YtnccpifdajcejaaVert
import Derived.Test.YtnccpifdajcejaaPush
import Derived.Test.YtnccpifdajcejaaApp
namespace Go.Proofs.Ytnccpifdajcejaa
open Go.RowKit

theorem own_below2' {w w' : World} {B : Nat} {e : TypeId} {z n : Nat} {v : Value} {xs : List Value} (h : w.ownsRow B e z v n xs) (hb : Below w.heap.size w w') : w'.ownsRow B e z v n xs :=
  h.kept (row := none) ⟨hb.os, hb.tape, hb.output, hb.size, fun i hi _ => hb.block i hi⟩ (by cases hv : v.ownBlock <;> simp)
/-- a row of vertices of the call's own -/
abbrev OwnX (w : World) (B : Nat) (v : Value) (n : Nat) (L : List Value) : Prop := w.ownsRow B 30 2 v n L
/-- integers in a row of the call's own, their number written apart -/
abbrev OwnN (w : World) (B : Nat) (v : Value) (n : Nat) (xs : List Int) : Prop := w.ownsRow B 3 1 v n (xs.map (Value.int .i64))
/-- the row that was appended to keeps its block, or lies in a new one -/
def Moved (W : World) (v v' : Value) : Prop := v'.ownBlock = v.ownBlock ∨ ∀ g, v'.ownBlock = some g → W.heap.size ≤ g

set_option maxRecDepth 100000 in
theorem run_appV (W : World) (B : Nat) (ty : TypeId) (v : Value) (n : Nat) (L : List Value) (A : Option Addr) (m c : Nat) (news : List Value) (hown : OwnX W B v n L) (hl : news.length = m * 2)
    (hA : A = none → m = 0) (hnews : ∀ a, A = some a → ∀ j u, news[j]? = some u → W.cell? (a.add j) = some u) (h1 : ∀ u ∈ news, u.oneCell' = true) (hB : B ≤ W.heap.size) (hn : n + m ≤ 1000000000000) :
    ∃ v' w', (Builtin.append_ #[23, 23] ty #[v, .slice A m c]).run Try.prog W = .ok v' w' ∧ OwnX w' B v' (n + m) (L ++ news) ∧ W.grownBy w' v.ownBlock ∧ Below B W w' ∧ Moved W v v' ∧
      (∀ g cap, v = .slice (some ⟨g, 0, none⟩) n cap → n + m ≤ cap → v' = .slice (some ⟨g, 0, none⟩) (n + m) cap) := by
  obtain ⟨i0, hi, hz0, hz1, hz2⟩ := info_parts Try.infoVx
  cases A with
  | none =>
    have hm := hA rfl
    subst hm
    have hnil : news = [] := List.eq_nil_of_length_eq_zero (by omega)
    subst hnil
    refine ⟨v, W, run_app_nil W B _ ty _ i0 2 Try.underlying23 hi v _ _ hown c, by simpa using hown, World.grownBy.refl W _, Below.refl _ _, Or.inl rfl, fun g cap e _ => by simpa using e⟩
  | some ad =>
    have hnews' := hnews ad rfl
    obtain ⟨v', w', hrun, h2, h3, _⟩ := run_append_own (P := Try.prog) W B 23 ty 30 i0 (.agg #[.slice none 0 0, .slice none 0 0]) 2 48 Try.underlying23 hi hz0 hz1 hz2 rfl (by decide) v _ _ hown ad m c news hl hnews' h1 (by unfold maxLen; omega) (by omega) hB
    have hroom : ∀ g cap, v = .slice (some ⟨g, 0, none⟩) n cap → n + m ≤ cap → v' = .slice (some ⟨g, 0, none⟩) (n + m) cap := by
      intro g cap hv hr
      rcases hown.2 with ⟨e, _⟩ | ⟨g', cap', cur, e, hb, hg, hnc, hcm, hcs, htake⟩
      · rw [hv] at e; cases e
      · rw [hv] at e
        injection e with e1 e2 e3
        injection e1 with e1
        injection e1 with e1
        subst e1 e3
        subst hv
        have hcl : ∀ j, j < news.length → n * 2 + j < cur.size := by intro j hj; omega
        have hrun2 := run_append_room_cells (P := Try.prog) W 23 ty 30 i0 Try.underlying23 hi g 0 n cap ad m c news (by rw [hz1]; exact hl) hnews' h1 hr
          (by intro j hj
              rw [hz1, cell_of_row W g _ cur 30 (0, 0) hg, Nat.zero_add, Array.getElem?_eq_getElem (hcl j hj)]; rfl) (by intro j _; simp [World.frozen?, hg])
        rw [hrun2] at hrun
        exact ((Result.ok.injEq _ _ _ _ ▸ hrun).1).symm
    refine ⟨v', w', hrun, h2, h3, (Below.refl _ _).grown h3 hB fun k hk => (hown.lt k hk).1, ?_, hroom⟩
    rcases hown.2 with ⟨e, h0⟩ | ⟨g, cap, cur, e, hb, hg, hnc, hcm, hcs, htake⟩
    · right
      have hx0 : L = [] := List.eq_nil_of_length_eq_zero (by rw [hown.1, h0])
      subst e h0 hx0
      obtain ⟨v2, w2, hrun2, h22, _, _⟩ := run_append_own (P := Try.prog) W W.heap.size 23 ty 30 i0 (.agg #[.slice none 0 0, .slice none 0 0]) 2 48 Try.underlying23 hi hz0 hz1 hz2 rfl (by decide) (.slice none 0 0) 0 [] ⟨rfl, Or.inl ⟨rfl, rfl⟩⟩ ad m c news hl hnews' h1 (by unfold maxLen; omega) (by omega) (Nat.le_refl _)
      rw [hrun2] at hrun
      injection hrun with e1 e2
      subst e1 e2
      exact fun g hg => (h22.lt g hg).1
    · by_cases hr : n + m ≤ cap
      · left
        rw [hroom g cap e hr, e]; rfl
      · right
        subst e
        obtain ⟨v2, w2, hrun2, hown2, _⟩ := run_append_arg_grows (P := Try.prog) W 23 ty 30 i0 (.agg #[.slice none 0 0, .slice none 0 0]) 2 48 Try.underlying23 hi hz0 hz1 hz2 rfl (by decide) ⟨g, 0, none⟩ n cap L hown.1
          (fun j u hj => hown.cells (g := g) rfl j u hj) ad m c news hl hnews' (by omega) (by unfold maxLen; omega) (by omega)
        rw [hrun2] at hrun
        injection hrun with e1 e2
        subst e1 e2
        exact fun q hq => (hown2.lt q hq).1

theorem wp_appV {o : Oper} {a : Act} {W : World} {K : Act → World → Prop} {Q : Exit → Act → World → Prop} (s x : Operand)
    (ho : o.op = .call { callee := .builtin .append, args := #[s, x], argTypes := #[23, 23] })
    (B : Nat) (v : Value) (n : Nat) (L : List Value) (A : Option Addr) (m c : Nat) (news : List Value) (hs : a.eval s = v) (hx : a.eval x = .slice A m c) (hown : OwnX W B v n L) (hl : news.length = m * 2)
    (hA : A = none → m = 0) (hnews : ∀ a, A = some a → ∀ j u, news[j]? = some u → W.cell? (a.add j) = some u) (h1 : ∀ u ∈ news, u.oneCell' = true) (hB : B ≤ W.heap.size) (hn : n + m ≤ 1000000000000)
    (h : ∀ v' w', OwnX w' B v' (n + m) (L ++ news) → W.grownBy w' v.ownBlock → Below B W w' → Moved W v v' → (∀ g cap, v = .slice (some ⟨g, 0, none⟩) n cap → n + m ≤ cap → v' = .slice (some ⟨g, 0, none⟩) (n + m) cap) → K (a.put o.dst v') w') : o.wp Try.prog a W K Q := by
  obtain ⟨v', w', hrun, h2, h3, h4, h5, h6⟩ := run_appV W B o.type v n L A m c news hown hl hA hnews h1 hB hn
  unfold Oper.wp execOp
  simp only [ho, resolve, invoke, builtin, Sem.run_bind, Sem.run_pure, Result.andThen_ok, List.map_toArray, List.map_cons, List.map_nil, hs, hx, hrun]
  exact h v' w' h2 h3 h4 h5 h6

theorem wpList_appV {ops : Array Oper} {rest : List Oper} {o : Oper} {a : Act} {W : World} {Q : Exit → Act → World → Prop} (hgd : o.guard = none) (s x : Operand)
    (ho : o.op = .call { callee := .builtin .append, args := #[s, x], argTypes := #[23, 23] })
    (B : Nat) (v : Value) (n : Nat) (L : List Value) (A : Option Addr) (m c : Nat) (news : List Value) (hs : a.eval s = v) (hx : a.eval x = .slice A m c) (hown : OwnX W B v n L) (hl : news.length = m * 2)
    (hA : A = none → m = 0) (hnews : ∀ a, A = some a → ∀ j u, news[j]? = some u → W.cell? (a.add j) = some u) (h1 : ∀ u ∈ news, u.oneCell' = true) (hB : B ≤ W.heap.size) (hn : n + m ≤ 1000000000000)
    (h : ∀ v' w', OwnX w' B v' (n + m) (L ++ news) → W.grownBy w' v.ownBlock → Below B W w' → Moved W v v' → (∀ g cap, v = .slice (some ⟨g, 0, none⟩) n cap → n + m ≤ cap → v' = .slice (some ⟨g, 0, none⟩) (n + m) cap) → wpList Try.prog ops Q rest (a.put o.dst v') w') : wpList Try.prog ops Q (o :: rest) a W :=
  wpList_plain hgd fun _ hK => wp_appV s x ho B v n L A m c news hs hx hown hl hA hnews h1 hB hn fun v' w' h2 h3 h4 h5 h6 => hK _ _ (h v' w' h2 h3 h4 h5 h6)

theorem step_appV {ops : Array Oper} {o : Oper} {a : Act} {W : World} {K : Act → World → Prop} {Q : Exit → Act → World → Prop} {E : Prop} (hgd : o.guard = none) (s x : Operand)
    (ho : o.op = .call { callee := .builtin .append, args := #[s, x], argTypes := #[23, 23] })
    (B : Nat) (v : Value) (n : Nat) (L : List Value) (A : Option Addr) (m c : Nat) (news : List Value) (hs : a.eval s = v) (hx : a.eval x = .slice A m c) (hown : OwnX W B v n L) (hl : news.length = m * 2)
    (hA : A = none → m = 0) (hnews : ∀ a, A = some a → ∀ j u, news[j]? = some u → W.cell? (a.add j) = some u) (h1 : ∀ u ∈ news, u.oneCell' = true) (hB : B ≤ W.heap.size) (hn : n + m ≤ 1000000000000)
    (h : ∀ v' w', OwnX w' B v' (n + m) (L ++ news) → W.grownBy w' v.ownBlock → Below B W w' → Moved W v v' → (∀ g cap, v = .slice (some ⟨g, 0, none⟩) n cap → n + m ≤ cap → v' = .slice (some ⟨g, 0, none⟩) (n + m) cap) → K (a.put o.dst v') w') :
    if Region.wanted o (yielded ops a.tmps) = true then Oper.wp Try.prog o a W K Q else E := by
  have hw : Region.wanted o (yielded ops a.tmps) = true := by simp [Region.wanted, hgd]
  rw [if_pos hw]
  exact wp_appV s x ho B v n L A m c news hs hx hown hl hA hnews h1 hB hn h

/-- append of integers to a slice without room: the result lies in a new block -/
theorem run_app0 (W : World) (ty : TypeId) (ad : Addr) (ys : List Int) (A : Option Addr) (c : Nat) (hr : Ints W A ys) (h0 : ys ≠ []) (hn : ys.length ≤ 1000000000000) :
    ∃ v' w', (Builtin.append_ #[27, 27] ty #[.slice (some ad) 0 0, .slice A ys.length c]).run Try.prog W = .ok v' w' ∧ Own w' W.heap.size v' ys ∧ Below W.heap.size W w' := by
  obtain ⟨i0, hi, hz0, hz1, hz2⟩ := info_parts Try.infoInt
  obtain ⟨b, off, rfl, _, hc⟩ := hr h0
  have hl : 0 < ys.length := List.length_pos_iff.2 h0
  obtain ⟨v', w', hrun, hown, hgr⟩ := run_append_arg_grows (P := Try.prog) W 27 ty 3 i0 (.int .i64 0) 1 8 Try.underlying27 hi hz0 hz1 hz2 rfl (by decide) ad 0 0 [] rfl (fun j u hj => by simp at hj)
    ⟨b, off, none⟩ ys.length c (ys.map (Value.int .i64)) (by simp) (by
      intro j u hu
      rw [List.getElem?_map] at hu
      cases hy : ys[j]? with
      | none => simp only [hy, Option.map_none, reduceCtorEq] at hu
      | some y =>
        simp only [hy, Option.map_some, Option.some.injEq] at hu
        rw [← hu, Addr.add_lit]
        exact hc j y hy) (by omega) (by unfold maxLen; omega) (by omega)
  exact ⟨v', w', hrun, by simpa [Own] using hown, (Below.refl _ _).grown hgr (Nat.le_refl _) (fun k hk => by cases hk)⟩
theorem step_app0 {ops : Array Oper} {o : Oper} {a : Act} {W : World} {K : Act → World → Prop} {Q : Exit → Act → World → Prop} {E : Prop} (hgd : o.guard = none) (s x : Operand)
    (ho : o.op = .call { callee := .builtin .append, args := #[s, x], argTypes := #[27, 27] })
    (ad : Addr) (ys : List Int) (A : Option Addr) (c : Nat) (hs : a.eval s = .slice (some ad) 0 0) (hx : a.eval x = .slice A ys.length c) (hr : Ints W A ys) (h0 : ys ≠ []) (hn : ys.length ≤ 1000000000000)
    (h : ∀ v' w', Own w' W.heap.size v' ys → Below W.heap.size W w' → K (a.put o.dst v') w') :
    if Region.wanted o (yielded ops a.tmps) = true then Oper.wp Try.prog o a W K Q else E := by
  have hw : Region.wanted o (yielded ops a.tmps) = true := by simp [Region.wanted, hgd]
  rw [if_pos hw]
  obtain ⟨v', w', hrun, h2, h3⟩ := run_app0 W o.type ad ys A c hr h0 hn
  unfold Oper.wp execOp
  simp only [ho, resolve, invoke, builtin, Sem.run_bind, Sem.run_pure, Result.andThen_ok, List.map_toArray, List.map_cons, List.map_nil, hs, hx, hrun]
  exact h v' w' h2 h3
theorem news_pair (W : World) (U V : Value) : ∀ a, some (⟨W.heap.size, 0, none⟩ : Addr) = some a → ∀ j u, [U, V][j]? = some u → (W.alloc (.cells #[U, V] 30)).cell? (a.add j) = some u := by
  intro a ha j u hj
  cases ha
  have hK := Blk.new W 30 #[U, V]
  rw [Addr.add_lit, Nat.zero_add, hK.cell j]
  match j, hj with
  | 0, hj => exact hj
  | 1, hj => exact hj
theorem one_pair {U V : Value} (hU : U.oneCell' = true) (hV : V.oneCell' = true) : ∀ u ∈ [U, V], u.oneCell' = true := by
  intro u hu
  simp only [List.mem_cons, List.not_mem_nil, or_false] at hu
  rcases hu with rfl | rfl
  · exact hU
  · exact hV
/-- one vertex, just laid -/
theorem wpList_pushV {ops : Array Oper} {rest : List Oper} {o : Oper} {a : Act} {W : World} {Q : Exit → Act → World → Prop} (hgd : o.guard = none) (s x : Operand)
    (ho : o.op = .call { callee := .builtin .append, args := #[s, x], argTypes := #[23, 23] })
    (B : Nat) (v : Value) (n : Nat) (L : List Value) (U V : Value) (hs : a.eval s = v) (hx : a.eval x = .slice (some ⟨W.heap.size, 0, none⟩) 1 1) (hown : OwnX W B v n L) (hU : U.oneCell' = true) (hV : V.oneCell' = true) (hB : B ≤ W.heap.size) (hn : n + 1 ≤ 1000000000000)
    (h : ∀ v' w', OwnX w' B v' (n + 1) (L ++ [U, V]) → W.grownBy w' v.ownBlock → Below B W w' → Moved W v v' → (∀ g cap, v = .slice (some ⟨g, 0, none⟩) n cap → n + 1 ≤ cap → v' = .slice (some ⟨g, 0, none⟩) (n + 1) cap) → wpList Try.prog ops Q rest (a.put o.dst v') w') :
    wpList Try.prog ops Q (o :: rest) a (W.alloc (.cells #[U, V] 30)) := by
  refine wpList_appV hgd s x ho B v n L (some ⟨W.heap.size, 0, none⟩) 1 1 [U, V] hs hx (hown.alloc _) rfl (fun e => by cases e) ?_ ?_ (Nat.le_trans hB (by simp)) hn ?_
  · intro a ha j u hj
    cases ha
    have hK := Blk.new W 30 #[U, V]
    rw [Addr.add_lit, Nat.zero_add, hK.cell j]
    match j, hj with
    | 0, hj => exact hj
    | 1, hj => exact hj
  · intro u hu
    simp only [List.mem_cons, List.not_mem_nil, or_false] at hu
    rcases hu with rfl | rfl
    · exact hU
    · exact hV
  · intro v' w' h2 h3 h4 h5 h6
    have hg' : W.grownBy w' v.ownBlock := ⟨h3.os, h3.tape, h3.output, Nat.le_trans (by simp) h3.size, fun k hk hne => (h3.block k (by simp; omega) hne).trans (Below.heap_alloc W _ k hk)⟩
    refine h v' w' h2 hg' ((Below.refl _ _).grown hg' hB fun k hk => (hown.lt k hk).1) ?_ h6
    rcases h5 with e | e
    · exact Or.inl e
    · exact Or.inr fun g hg => by have := e g hg; simp at this; omega

/-- a slice of integers as a value, no cell of it in block q -/
def IntsF (w : World) (q : Option Nat) (V : Value) (xs : List Int) : Prop :=
  ∃ A c, V = .slice A xs.length c ∧ (xs ≠ [] → ∃ b off, A = some ⟨b, off, none⟩ ∧ some b ≠ q ∧ b < w.heap.size ∧ ∀ k x, xs[k]? = some x → w.cell? ⟨b, off + k, none⟩ = some (.int .i64 x)) ∧ xs.length ≤ c ∧ c ≤ maxLen
theorem IntsF.intsV {w : World} {q : Option Nat} {V : Value} {xs : List Int} (h : IntsF w q V xs) : IntsV w V xs := by
  obtain ⟨A, c, e, hA, h1, h2⟩ := h
  exact ⟨A, c, e, fun hn => by obtain ⟨b, off, e2, _, hb, hc⟩ := hA hn; exact ⟨b, off, e2, hb, hc⟩, h1, h2⟩
theorem IntsF.one {w : World} {q : Option Nat} {V : Value} {xs : List Int} (h : IntsF w q V xs) : V.oneCell' = true := by
  obtain ⟨A, c, e, _⟩ := h
  rw [e]; rfl
theorem IntsF.grown {w w' : World} {q : Option Nat} {V : Value} {xs : List Int} (h : IntsF w q V xs) (hg : w.grownBy w' q) : IntsF w' q V xs := by
  obtain ⟨A, c, e, hA, h1, h2⟩ := h
  refine ⟨A, c, e, fun hn => ?_, h1, h2⟩
  obtain ⟨b, off, e2, hq, hb, hc⟩ := hA hn
  exact ⟨b, off, e2, hq, Nat.lt_of_lt_of_le hb hg.size, fun k x hk => (hg.cell_far ⟨b, off + k, none⟩ hb hq).trans (hc k x hk)⟩
theorem IntsF.below {w w' : World} {q : Option Nat} {V : Value} {xs : List Int} (h : IntsF w q V xs) (hb : Below w.heap.size w w') : IntsF w' q V xs := by
  obtain ⟨A, c, e, hA, h1, h2⟩ := h
  refine ⟨A, c, e, fun hn => ?_, h1, h2⟩
  obtain ⟨b, off, e2, hq, hlt, hc⟩ := hA hn
  exact ⟨b, off, e2, hq, Nat.lt_of_lt_of_le hlt hb.size, fun k x hk => (hb.cell (p := ⟨b, off + k, none⟩) hlt).trans (hc k x hk)⟩
theorem IntsF.of_ints {w : World} {V : Value} {xs : List Int} {q : Option Nat} (h : IntsV w V xs) (hq : ∀ g, q = some g → w.heap.size ≤ g) : IntsF w q V xs := by
  obtain ⟨A, c, e, hI, h1, h2⟩ := h
  refine ⟨A, c, e, fun hn => ?_, h1, h2⟩
  obtain ⟨b, off, e2, hb, hc⟩ := hI hn
  exact ⟨b, off, e2, fun e3 => by have := hq b e3.symm; omega, hb, hc⟩
/-- lists that lay there before a world in which the row q was made -/
theorem IntsF.of_old {w w' : World} {V : Value} {xs : List Int} {q : Option Nat} (h : IntsV w V xs) (hb : Below w.heap.size w w') (hq : ∀ g, q = some g → w.heap.size ≤ g) : IntsF w' q V xs :=
  (IntsF.of_ints h hq).below hb
theorem IntsF.of_own {w : World} {B : Nat} {v : Value} {xs : List Int} {q : Option Nat} (h : Own w B v xs) (hq : v.ownBlock = none ∨ v.ownBlock ≠ q) : IntsF w q v xs := by
  obtain ⟨A, c, e, hI, h1, h2⟩ := h.form
  refine ⟨A, c, e, fun hn => ?_, h1, h2⟩
  obtain ⟨b, off, eA, hb, hc⟩ := hI hn
  refine ⟨b, off, eA, ?_, hb, hc⟩
  rw [e, eA] at hq
  rcases hq with hq | hq
  · cases hq
  · exact hq
theorem IntsF.moved {w : World} {V : Value} {xs : List Int} {v v' : Value} (h : IntsF w v.ownBlock V xs) (hm : Moved w v v') : IntsF w v'.ownBlock V xs := by
  rcases hm with e | e
  · rw [e]; exact h
  · exact IntsF.of_ints h.intsV e
/-- behind an append to the row q -/
theorem IntsF.push {w w' : World} {q q' : Option Nat} {V : Value} {xs : List Int} (h : IntsF w q V xs) (hg : w.grownBy w' q) (hm : q' = q ∨ ∀ g, q' = some g → w.heap.size ≤ g) : IntsF w' q' V xs := by
  obtain ⟨A, c, e, hA, h1, h2⟩ := h
  refine ⟨A, c, e, fun hn => ?_, h1, h2⟩
  obtain ⟨b, off, e2, hq, hb, hc⟩ := hA hn
  refine ⟨b, off, e2, ?_, Nat.lt_of_lt_of_le hb hg.size, fun k x hk => (hg.cell_far ⟨b, off + k, none⟩ hb hq).trans (hc k x hk)⟩
  rcases hm with e3 | e3
  · rw [e3]; exact hq
  · intro e4
    have := e3 b e4.symm
    omega
theorem IntsF.of_new {w : World} {B : Nat} {v : Value} {xs : List Int} {q : Option Nat} (h : Own w B v xs) (hq : ∀ g, q = some g → g < B) : IntsF w q v xs :=
  IntsF.of_own h (by
    cases hv : v.ownBlock with
    | none => exact Or.inl rfl
    | some k =>
      right
      intro e
      have h1 := (h.lt k hv).1
      have h2 := hq k e.symm
      omega)
/-- cells that hold vertices, two a vertex, no list in block q -/
def VCell (w : World) (q : Option Nat) (vs : List Vx) (L : List Value) : Prop :=
  L.length = vs.length * 2 ∧ ∀ k v, vs[k]? = some v → ∃ U V, L[k * 2]? = some U ∧ L[k * 2 + 1]? = some V ∧ IntsF w q U v.1 ∧ IntsF w q V v.2
theorem VCell.imp {w w' : World} {q q' : Option Nat} {vs : List Vx} {L : List Value} (h : VCell w q vs L) (hi : ∀ V xs, IntsF w q V xs → IntsF w' q' V xs) : VCell w' q' vs L := by
  refine ⟨h.1, fun k v hk => ?_⟩
  obtain ⟨U, V, e1, e2, i1, i2⟩ := h.2 k v hk
  exact ⟨U, V, e1, e2, hi _ _ i1, hi _ _ i2⟩
theorem VCell.nil (w : World) (q : Option Nat) : VCell w q [] [] := ⟨rfl, fun k v hk => by simp at hk⟩
theorem VCell.app {w : World} {q : Option Nat} {vs us : List Vx} {L M : List Value} (h : VCell w q vs L) (h' : VCell w q us M) : VCell w q (vs ++ us) (L ++ M) := by
  refine ⟨by simp [h.1, h'.1]; omega, fun k v hk => ?_⟩
  have hL := h.1
  by_cases hlt : k < vs.length
  · rw [List.getElem?_append_left hlt] at hk
    obtain ⟨U, V, e1, e2, i1, i2⟩ := h.2 k v hk
    exact ⟨U, V, by rw [List.getElem?_append_left (by omega)]; exact e1, by rw [List.getElem?_append_left (by omega)]; exact e2, i1, i2⟩
  · rw [List.getElem?_append_right (by omega)] at hk
    obtain ⟨U, V, e1, e2, i1, i2⟩ := h'.2 _ v hk
    refine ⟨U, V, ?_, ?_, i1, i2⟩
    · rw [List.getElem?_append_right (by omega), ← e1]; congr 1; omega
    · rw [List.getElem?_append_right (by omega), ← e2]; congr 1; omega
theorem VCell.single {w : World} {q : Option Nat} {U V : Value} {xs cs : List Int} (h1 : IntsF w q U xs) (h2 : IntsF w q V cs) : VCell w q [(xs, cs)] [U, V] := by
  refine ⟨rfl, fun k v hk => ?_⟩
  match k, hk with
  | 0, hk => cases hk; exact ⟨U, V, rfl, rfl, h1, h2⟩
theorem VCell.push {w w' : World} {q q' : Option Nat} {vs : List Vx} {L : List Value} {U V : Value} {xs cs : List Int} (h : VCell w q vs L) (h1 : IntsF w q U xs) (h2 : IntsF w q V cs) (hg : w.grownBy w' q) (hm : q' = q ∨ ∀ g, q' = some g → w.heap.size ≤ g) : VCell w' q' (vs ++ [(xs, cs)]) (L ++ [U, V]) :=
  (h.app (VCell.single h1 h2)).imp fun _ _ hi => hi.push hg hm
theorem VCell.below {w w' : World} {q : Option Nat} {vs : List Vx} {L : List Value} (h : VCell w q vs L) (hb : Below w.heap.size w w') : VCell w' q vs L := h.imp fun _ _ hi => hi.below hb
theorem VCell.one {w : World} {q : Option Nat} {vs : List Vx} {L : List Value} (h : VCell w q vs L) : ∀ u ∈ L, u.oneCell' = true := by
  intro u hu
  obtain ⟨i, hi, rfl⟩ := List.getElem_of_mem hu
  have hl := h.1
  obtain ⟨U, V, e1, e2, i1, i2⟩ := h.2 (i / 2) vs[i / 2] (List.getElem?_eq_getElem (by omega))
  rcases Nat.mod_two_eq_zero_or_one i with hm | hm
  · rw [show i / 2 * 2 = i from by omega, List.getElem?_eq_getElem hi] at e1
    rw [Option.some.inj e1]; exact i1.one
  · rw [show i / 2 * 2 + 1 = i from by omega, List.getElem?_eq_getElem hi] at e2
    rw [Option.some.inj e2]; exact i2.one
theorem VCell.verts {w : World} {B : Nat} {q : Option Nat} {vs : List Vx} {L : List Value} {A : Option Addr} {n c : Nat} (h : VCell w q vs L) (ho : OwnX w B (.slice A n c) n L) (hn : vs.length = n) : Verts w A vs := by
  intro hne
  have hlt : 0 < n := by rw [← hn]; exact List.length_pos_iff.2 hne
  rcases ho.2 with ⟨_, h0⟩ | ⟨g, cap, cur, e, hb, hg, hnc, hcm, hcs, htake⟩
  · omega
  · injection e with e1 _ e3
    subst e1 e3
    refine ⟨g, 0, rfl, (Array.getElem?_eq_some_iff.1 hg).1, fun k v hk => ?_⟩
    have hkl : k < vs.length := (List.getElem?_eq_some_iff.1 hk).1
    obtain ⟨U, V, e1, e2, i1, i2⟩ := h.2 k v hk
    refine ⟨U, V, ?_, ?_, i1.intsV, i2.intsV⟩
    · rw [Nat.zero_add, ho.cellAt (k * 2) (by omega), e1]
    · rw [Nat.zero_add, ho.cellAt (k * 2 + 1) (by omega), e2]
/-- the cells of vertices that lie in memory -/
theorem Verts.cells {w : World} {b off : Nat} {vs : List Vx} (h : Verts w (some ⟨b, off, none⟩) vs) (q : Option Nat) (hq : ∀ g, q = some g → w.heap.size ≤ g) :
    ∃ L, VCell w q vs L ∧ ∀ j u, L[j]? = some u → w.cell? ⟨b, off + j, none⟩ = some u := by
  induction vs generalizing off with
  | nil => exact ⟨[], VCell.nil w q, fun j u hj => by simp at hj⟩
  | cons v r ih =>
    obtain ⟨b', off', e, hb, hc⟩ := h (by simp)
    injection e with e
    injection e with e1 e2
    subst e1 e2
    obtain ⟨U, V, r1, r2, i1, i2⟩ := hc 0 v rfl
    obtain ⟨L, hL, hcell⟩ := ih (off := off + 2) (fun hn => ⟨b, off + 2, rfl, hb, fun k v hk => by
      obtain ⟨U, V, r1, r2, i1, i2⟩ := hc (k + 1) v hk
      exact ⟨U, V, by rw [← r1]; congr 2; omega, by rw [← r2]; congr 2; omega, i1, i2⟩⟩)
    refine ⟨[U, V] ++ L, (VCell.single (IntsF.of_ints i1 hq) (IntsF.of_ints i2 hq)).app hL, fun j u hj => ?_⟩
    match j, hj with
    | 0, hj => cases hj; rw [← r1]
    | 1, hj => cases hj; rw [← r2]
    | j + 2, hj => rw [← hcell j u hj]; congr 2; omega
/-- a cut of vertices that lie in memory -/
theorem Verts.cut {w : World} {b off : Nat} {vs : List Vx} (h : Verts w (some ⟨b, off, none⟩) vs) (lo m : Nat) : Verts w (some ⟨b, off + lo * 2, none⟩) ((vs.drop lo).take m) := by
  intro hn
  obtain ⟨b', off', e, hb, hc⟩ := h (by intro e; subst e; simp at hn)
  injection e with e
  injection e with e1 e2
  subst e1 e2
  refine ⟨b, off + lo * 2, rfl, hb, fun k v hk => ?_⟩
  rw [List.getElem?_take] at hk
  split at hk
  · rw [List.getElem?_drop] at hk
    obtain ⟨U, V, r1, r2, i1, i2⟩ := hc _ v hk
    exact ⟨U, V, by rw [← r1]; congr 2; omega, by rw [← r2]; congr 2; omega, i1, i2⟩
  · cases hk
theorem OwnX.form {w : World} {B : Nat} {v : Value} {n : Nat} {L : List Value} (h : OwnX w B v n L) : ∃ A c, v = .slice A n c ∧ n ≤ c ∧ c ≤ maxLen := by
  rcases h.2 with ⟨rfl, rfl⟩ | ⟨g, cap, cur, rfl, _, _, h1, h2, _⟩
  · exact ⟨none, 0, rfl, Nat.le_refl _, by unfold maxLen; omega⟩
  · exact ⟨_, cap, rfl, h1, h2⟩
/-- vertices that lie in memory, and a flag -/
def VertRes (w : World) (rs : List Vx) (b : Bool) (e : Ending) (w' : World) : Prop :=
  ∃ A c, e = .returned (.tuple #[.slice A rs.length c, .bool b]) ∧ Verts w' A rs ∧ rs.length ≤ c ∧ c ≤ maxLen ∧ Below w.heap.size w w'
theorem VertRes.none {w w1 : World} {rs : List Vx} {b : Bool} (hr : rs = []) (hb : b = false) (hbel : Below w.heap.size w w1) : VertRes w rs b (.returned (.tuple #[.slice (some ⟨w1.heap.size, 0, none⟩) 0 0, .bool false])) (w1.alloc (.cells #[] 30)) := by
  subst hr hb
  exact ⟨_, _, rfl, fun h => absurd rfl h, Nat.le_refl _, by unfold maxLen; omega, hbel.alloc hbel.size _⟩
end Go.Proofs.Ytnccpifdajcejaa
