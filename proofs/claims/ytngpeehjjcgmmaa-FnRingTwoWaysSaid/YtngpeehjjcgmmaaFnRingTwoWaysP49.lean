/- Append to rows of the reference's folds and to rows of rows of numbers. No condition but sizes. Parts laid flat, the reference's way: places, levels. No condition but sizes. Parts laid flat, the reference's way: what covers a place, which folds lie apart, levels. No condition but sizes. -/
import Derived.Test.YtngpeehjjcgmmaaFnRingTwoWaysP48
import Derived.Test.YtngpeehjjcgmmaaFlatA
import Derived.Test.YtngpeehjjcgmmaaFlatB
import Derived.Test.YtngpeehjjcgmmaaFnRingTwoWaysP44
import Derived.StillTailTactics
namespace Go.Proofs.Ytngpeehjjcgmmaa
open Go.RowKit

theorem Try.infoLf : (Try.prog.info? 89).map (fun i => (i.zero, i.size, i.bytes)) = some (some (.agg #[.int .i64 0, .int .i64 0, .int .i64 0, .int .u8 0]), 4, 32) := by kernel_rfl
/-- a row of the call's own -/
abbrev OwnL (w : World) (B : Nat) (v : Value) (n : Nat) (L : List Value) : Prop := w.ownsRow B 89 4 v n L
set_option maxRecDepth 100000 in
theorem run_appL (W : World) (B : Nat) (ty : TypeId) (v : Value) (n : Nat) (L : List Value) (A : Option Addr) (m c : Nat) (news : List Value) (hown : OwnL W B v n L) (hl : news.length = m * 4)
    (hA : A = none → m = 0) (hnews : ∀ a, A = some a → ∀ j u, news[j]? = some u → W.cell? (a.add j) = some u) (h1 : ∀ u ∈ news, u.oneCell' = true) (hB : B ≤ W.heap.size) (hn : n + m ≤ 1000000000000) :
    ∃ v' w', (Builtin.append_ #[86, 86] ty #[v, .slice A m c]).run Try.prog W = .ok v' w' ∧ OwnL w' B v' (n + m) (L ++ news) ∧ W.grownBy w' v.ownBlock ∧ Below B W w' ∧ MovedX W v v' ∧
      (∀ g cap, v = .slice (some ⟨g, 0, none⟩) n cap → n + m ≤ cap → v' = .slice (some ⟨g, 0, none⟩) (n + m) cap) := by
  obtain ⟨i0, hi, hz0, hz1, hz2⟩ := info_parts Try.infoLf
  cases A with
  | none =>
    have hm := hA rfl
    subst hm
    have hnil : news = [] := List.eq_nil_of_length_eq_zero (by omega)
    subst hnil
    refine ⟨v, W, run_app_nil W B _ ty _ i0 4 Try.underlying86 hi v _ _ hown c, by simpa using hown, World.grownBy.refl W _, Below.refl _ _, Or.inl rfl, fun g cap e _ => by simpa using e⟩
  | some ad =>
    have hnews' := hnews ad rfl
    obtain ⟨v', w', hrun, h2, h3, _⟩ := run_append_own (P := Try.prog) W B 86 ty 89 i0 (.agg #[.int .i64 0, .int .i64 0, .int .i64 0, .int .u8 0]) 4 32 Try.underlying86 hi hz0 hz1 hz2 rfl (by decide) v _ _ hown ad m c news hl hnews' h1 (by unfold maxLen; omega) (by omega) hB
    have hroom : ∀ g cap, v = .slice (some ⟨g, 0, none⟩) n cap → n + m ≤ cap → v' = .slice (some ⟨g, 0, none⟩) (n + m) cap := by
      intro g cap hv hr
      rcases hown.2 with ⟨e, _⟩ | ⟨g', cap', cur, e, hb, hg, hnc, hcm, hcs, htake⟩
      · rw [hv] at e; cases e
      · rw [hv] at e
        injection e with e1 e2 e3
        injection e1 with e1
        injection e1 with e1
        subst e1 e3
        subst hv
        have hcl : ∀ j, j < news.length → n * 4 + j < cur.size := by intro j hj; omega
        have hrun2 := run_append_room_cells (P := Try.prog) W 86 ty 89 i0 Try.underlying86 hi g 0 n cap ad m c news (by rw [hz1]; exact hl) hnews' h1 hr
          (by intro j hj
              rw [hz1, cell_of_row W g _ cur 89 (0, 0) hg, Nat.zero_add, Array.getElem?_eq_getElem (hcl j hj)]; rfl) (by intro j _; simp [World.frozen?, hg])
        rw [hrun2] at hrun
        exact ((Result.ok.injEq _ _ _ _ ▸ hrun).1).symm
    refine ⟨v', w', hrun, h2, h3, (Below.refl _ _).grown h3 hB fun k hk => (hown.lt k hk).1, ?_, hroom⟩
    rcases hown.2 with ⟨e, h0⟩ | ⟨g, cap, cur, e, hb, hg, hnc, hcm, hcs, htake⟩
    · right
      have hx0 : L = [] := List.eq_nil_of_length_eq_zero (by rw [hown.1, h0])
      subst e h0 hx0
      obtain ⟨v2, w2, hrun2, h22, _, _⟩ := run_append_own (P := Try.prog) W W.heap.size 86 ty 89 i0 (.agg #[.int .i64 0, .int .i64 0, .int .i64 0, .int .u8 0]) 4 32 Try.underlying86 hi hz0 hz1 hz2 rfl (by decide) (.slice none 0 0) 0 [] ⟨rfl, Or.inl ⟨rfl, rfl⟩⟩ ad m c news hl hnews' h1 (by unfold maxLen; omega) (by omega) (Nat.le_refl _)
      rw [hrun2] at hrun
      injection hrun with e1 e2
      subst e1 e2
      exact fun g hg => (h22.lt g hg).1
    · by_cases hr : n + m ≤ cap
      · left
        rw [hroom g cap e hr, e]; rfl
      · right
        subst e
        obtain ⟨v2, w2, hrun2, hown2, _⟩ := run_append_arg_grows (P := Try.prog) W 86 ty 89 i0 (.agg #[.int .i64 0, .int .i64 0, .int .i64 0, .int .u8 0]) 4 32 Try.underlying86 hi hz0 hz1 hz2 rfl (by decide) ⟨g, 0, none⟩ n cap L hown.1
          (fun j u hj => hown.cells (g := g) rfl j u hj) ad m c news hl hnews' (by omega) (by unfold maxLen; omega) (by omega)
        rw [hrun2] at hrun
        injection hrun with e1 e2
        subst e1 e2
        exact fun q hq => (hown2.lt q hq).1

theorem wp_appL {o : Oper} {a : Act} {W : World} {K : Act → World → Prop} {Q : Exit → Act → World → Prop} (s x : Operand)
    (ho : o.op = .call { callee := .builtin .append, args := #[s, x], argTypes := #[86, 86] })
    (B : Nat) (v : Value) (n : Nat) (L : List Value) (A : Option Addr) (m c : Nat) (news : List Value) (hs : a.eval s = v) (hx : a.eval x = .slice A m c) (hown : OwnL W B v n L) (hl : news.length = m * 4)
    (hA : A = none → m = 0) (hnews : ∀ a, A = some a → ∀ j u, news[j]? = some u → W.cell? (a.add j) = some u) (h1 : ∀ u ∈ news, u.oneCell' = true) (hB : B ≤ W.heap.size) (hn : n + m ≤ 1000000000000)
    (h : ∀ v' w', OwnL w' B v' (n + m) (L ++ news) → W.grownBy w' v.ownBlock → Below B W w' → MovedX W v v' → (∀ g cap, v = .slice (some ⟨g, 0, none⟩) n cap → n + m ≤ cap → v' = .slice (some ⟨g, 0, none⟩) (n + m) cap) → K (a.put o.dst v') w') : o.wp Try.prog a W K Q := by
  obtain ⟨v', w', hrun, h2, h3, h4, h5, h6⟩ := run_appL W B o.type v n L A m c news hown hl hA hnews h1 hB hn
  unfold Oper.wp execOp
  simp only [ho, resolve, invoke, builtin, Sem.run_bind, Sem.run_pure, Result.andThen_ok, List.map_toArray, List.map_cons, List.map_nil, hs, hx, hrun]
  exact h v' w' h2 h3 h4 h5 h6

theorem step_appL {ops : Array Oper} {o : Oper} {a : Act} {W : World} {K : Act → World → Prop} {Q : Exit → Act → World → Prop} {E : Prop} (hgd : o.guard = none) (s x : Operand)
    (ho : o.op = .call { callee := .builtin .append, args := #[s, x], argTypes := #[86, 86] })
    (B : Nat) (v : Value) (n : Nat) (L : List Value) (A : Option Addr) (m c : Nat) (news : List Value) (hs : a.eval s = v) (hx : a.eval x = .slice A m c) (hown : OwnL W B v n L) (hl : news.length = m * 4)
    (hA : A = none → m = 0) (hnews : ∀ a, A = some a → ∀ j u, news[j]? = some u → W.cell? (a.add j) = some u) (h1 : ∀ u ∈ news, u.oneCell' = true) (hB : B ≤ W.heap.size) (hn : n + m ≤ 1000000000000)
    (h : ∀ v' w', OwnL w' B v' (n + m) (L ++ news) → W.grownBy w' v.ownBlock → Below B W w' → MovedX W v v' → (∀ g cap, v = .slice (some ⟨g, 0, none⟩) n cap → n + m ≤ cap → v' = .slice (some ⟨g, 0, none⟩) (n + m) cap) → K (a.put o.dst v') w') :
    if Region.wanted o (yielded ops a.tmps) = true then Oper.wp Try.prog o a W K Q else E := by
  have hw : Region.wanted o (yielded ops a.tmps) = true := by simp [Region.wanted, hgd]
  rw [if_pos hw]
  exact wp_appL s x ho B v n L A m c news hs hx hown hl hA hnews h1 hB hn h
theorem wpList_appL {ops : Array Oper} {rest : List Oper} {o : Oper} {a : Act} {W : World} {Q : Exit → Act → World → Prop} (hgd : o.guard = none) (s x : Operand)
    (ho : o.op = .call { callee := .builtin .append, args := #[s, x], argTypes := #[86, 86] })
    (B : Nat) (v : Value) (n : Nat) (L : List Value) (A : Option Addr) (m c : Nat) (news : List Value) (hs : a.eval s = v) (hx : a.eval x = .slice A m c) (hown : OwnL W B v n L) (hl : news.length = m * 4)
    (hA : A = none → m = 0) (hnews : ∀ a, A = some a → ∀ j u, news[j]? = some u → W.cell? (a.add j) = some u) (h1 : ∀ u ∈ news, u.oneCell' = true) (hB : B ≤ W.heap.size) (hn : n + m ≤ 1000000000000)
    (h : ∀ v' w', OwnL w' B v' (n + m) (L ++ news) → W.grownBy w' v.ownBlock → Below B W w' → MovedX W v v' → (∀ g cap, v = .slice (some ⟨g, 0, none⟩) n cap → n + m ≤ cap → v' = .slice (some ⟨g, 0, none⟩) (n + m) cap) → wpList Try.prog ops Q rest (a.put o.dst v') w') : wpList Try.prog ops Q (o :: rest) a W :=
  wpList_plain hgd fun _ hK => wp_appL s x ho B v n L A m c news hs hx hown hl hA hnews h1 hB hn fun v' w' h2 h3 h4 h5 h6 => hK _ _ (h v' w' h2 h3 h4 h5 h6)
theorem Try.infoWl : (Try.prog.info? 23).map (fun i => (i.zero, i.size, i.bytes)) = some (some (.slice none 0 0), 1, 24) := by kernel_rfl
/-- a row of the call's own -/
abbrev OwnW (w : World) (B : Nat) (v : Value) (n : Nat) (L : List Value) : Prop := w.ownsRow B 23 1 v n L
set_option maxRecDepth 100000 in
theorem run_appW (W : World) (B : Nat) (ty : TypeId) (v : Value) (n : Nat) (L : List Value) (A : Option Addr) (m c : Nat) (news : List Value) (hown : OwnW W B v n L) (hl : news.length = m * 1)
    (hA : A = none → m = 0) (hnews : ∀ a, A = some a → ∀ j u, news[j]? = some u → W.cell? (a.add j) = some u) (h1 : ∀ u ∈ news, u.oneCell' = true) (hB : B ≤ W.heap.size) (hn : n + m ≤ 1000000000000) :
    ∃ v' w', (Builtin.append_ #[48, 48] ty #[v, .slice A m c]).run Try.prog W = .ok v' w' ∧ OwnW w' B v' (n + m) (L ++ news) ∧ W.grownBy w' v.ownBlock ∧ Below B W w' ∧ MovedX W v v' ∧
      (∀ g cap, v = .slice (some ⟨g, 0, none⟩) n cap → n + m ≤ cap → v' = .slice (some ⟨g, 0, none⟩) (n + m) cap) := by
  obtain ⟨i0, hi, hz0, hz1, hz2⟩ := info_parts Try.infoWl
  cases A with
  | none =>
    have hm := hA rfl
    subst hm
    have hnil : news = [] := List.eq_nil_of_length_eq_zero (by omega)
    subst hnil
    refine ⟨v, W, run_app_nil W B _ ty _ i0 1 Try.underlying48 hi v _ _ hown c, by simpa using hown, World.grownBy.refl W _, Below.refl _ _, Or.inl rfl, fun g cap e _ => by simpa using e⟩
  | some ad =>
    have hnews' := hnews ad rfl
    obtain ⟨v', w', hrun, h2, h3, _⟩ := run_append_own (P := Try.prog) W B 48 ty 23 i0 (.slice none 0 0) 1 24 Try.underlying48 hi hz0 hz1 hz2 rfl (by decide) v _ _ hown ad m c news hl hnews' h1 (by unfold maxLen; omega) (by omega) hB
    have hroom : ∀ g cap, v = .slice (some ⟨g, 0, none⟩) n cap → n + m ≤ cap → v' = .slice (some ⟨g, 0, none⟩) (n + m) cap := by
      intro g cap hv hr
      rcases hown.2 with ⟨e, _⟩ | ⟨g', cap', cur, e, hb, hg, hnc, hcm, hcs, htake⟩
      · rw [hv] at e; cases e
      · rw [hv] at e
        injection e with e1 e2 e3
        injection e1 with e1
        injection e1 with e1
        subst e1 e3
        subst hv
        have hcl : ∀ j, j < news.length → n * 1 + j < cur.size := by intro j hj; omega
        have hrun2 := run_append_room_cells (P := Try.prog) W 48 ty 23 i0 Try.underlying48 hi g 0 n cap ad m c news (by rw [hz1]; exact hl) hnews' h1 hr
          (by intro j hj
              rw [hz1, cell_of_row W g _ cur 23 (0, 0) hg, Nat.zero_add, Array.getElem?_eq_getElem (hcl j hj)]; rfl) (by intro j _; simp [World.frozen?, hg])
        rw [hrun2] at hrun
        exact ((Result.ok.injEq _ _ _ _ ▸ hrun).1).symm
    refine ⟨v', w', hrun, h2, h3, (Below.refl _ _).grown h3 hB fun k hk => (hown.lt k hk).1, ?_, hroom⟩
    rcases hown.2 with ⟨e, h0⟩ | ⟨g, cap, cur, e, hb, hg, hnc, hcm, hcs, htake⟩
    · right
      have hx0 : L = [] := List.eq_nil_of_length_eq_zero (by rw [hown.1, h0])
      subst e h0 hx0
      obtain ⟨v2, w2, hrun2, h22, _, _⟩ := run_append_own (P := Try.prog) W W.heap.size 48 ty 23 i0 (.slice none 0 0) 1 24 Try.underlying48 hi hz0 hz1 hz2 rfl (by decide) (.slice none 0 0) 0 [] ⟨rfl, Or.inl ⟨rfl, rfl⟩⟩ ad m c news hl hnews' h1 (by unfold maxLen; omega) (by omega) (Nat.le_refl _)
      rw [hrun2] at hrun
      injection hrun with e1 e2
      subst e1 e2
      exact fun g hg => (h22.lt g hg).1
    · by_cases hr : n + m ≤ cap
      · left
        rw [hroom g cap e hr, e]; rfl
      · right
        subst e
        obtain ⟨v2, w2, hrun2, hown2, _⟩ := run_append_arg_grows (P := Try.prog) W 48 ty 23 i0 (.slice none 0 0) 1 24 Try.underlying48 hi hz0 hz1 hz2 rfl (by decide) ⟨g, 0, none⟩ n cap L hown.1
          (fun j u hj => hown.cells (g := g) rfl j u hj) ad m c news hl hnews' (by omega) (by unfold maxLen; omega) (by omega)
        rw [hrun2] at hrun
        injection hrun with e1 e2
        subst e1 e2
        exact fun q hq => (hown2.lt q hq).1

theorem wp_appW {o : Oper} {a : Act} {W : World} {K : Act → World → Prop} {Q : Exit → Act → World → Prop} (s x : Operand)
    (ho : o.op = .call { callee := .builtin .append, args := #[s, x], argTypes := #[48, 48] })
    (B : Nat) (v : Value) (n : Nat) (L : List Value) (A : Option Addr) (m c : Nat) (news : List Value) (hs : a.eval s = v) (hx : a.eval x = .slice A m c) (hown : OwnW W B v n L) (hl : news.length = m * 1)
    (hA : A = none → m = 0) (hnews : ∀ a, A = some a → ∀ j u, news[j]? = some u → W.cell? (a.add j) = some u) (h1 : ∀ u ∈ news, u.oneCell' = true) (hB : B ≤ W.heap.size) (hn : n + m ≤ 1000000000000)
    (h : ∀ v' w', OwnW w' B v' (n + m) (L ++ news) → W.grownBy w' v.ownBlock → Below B W w' → MovedX W v v' → (∀ g cap, v = .slice (some ⟨g, 0, none⟩) n cap → n + m ≤ cap → v' = .slice (some ⟨g, 0, none⟩) (n + m) cap) → K (a.put o.dst v') w') : o.wp Try.prog a W K Q := by
  obtain ⟨v', w', hrun, h2, h3, h4, h5, h6⟩ := run_appW W B o.type v n L A m c news hown hl hA hnews h1 hB hn
  unfold Oper.wp execOp
  simp only [ho, resolve, invoke, builtin, Sem.run_bind, Sem.run_pure, Result.andThen_ok, List.map_toArray, List.map_cons, List.map_nil, hs, hx, hrun]
  exact h v' w' h2 h3 h4 h5 h6

theorem step_appW {ops : Array Oper} {o : Oper} {a : Act} {W : World} {K : Act → World → Prop} {Q : Exit → Act → World → Prop} {E : Prop} (hgd : o.guard = none) (s x : Operand)
    (ho : o.op = .call { callee := .builtin .append, args := #[s, x], argTypes := #[48, 48] })
    (B : Nat) (v : Value) (n : Nat) (L : List Value) (A : Option Addr) (m c : Nat) (news : List Value) (hs : a.eval s = v) (hx : a.eval x = .slice A m c) (hown : OwnW W B v n L) (hl : news.length = m * 1)
    (hA : A = none → m = 0) (hnews : ∀ a, A = some a → ∀ j u, news[j]? = some u → W.cell? (a.add j) = some u) (h1 : ∀ u ∈ news, u.oneCell' = true) (hB : B ≤ W.heap.size) (hn : n + m ≤ 1000000000000)
    (h : ∀ v' w', OwnW w' B v' (n + m) (L ++ news) → W.grownBy w' v.ownBlock → Below B W w' → MovedX W v v' → (∀ g cap, v = .slice (some ⟨g, 0, none⟩) n cap → n + m ≤ cap → v' = .slice (some ⟨g, 0, none⟩) (n + m) cap) → K (a.put o.dst v') w') :
    if Region.wanted o (yielded ops a.tmps) = true then Oper.wp Try.prog o a W K Q else E := by
  have hw : Region.wanted o (yielded ops a.tmps) = true := by simp [Region.wanted, hgd]
  rw [if_pos hw]
  exact wp_appW s x ho B v n L A m c news hs hx hown hl hA hnews h1 hB hn h
theorem wpList_appW {ops : Array Oper} {rest : List Oper} {o : Oper} {a : Act} {W : World} {Q : Exit → Act → World → Prop} (hgd : o.guard = none) (s x : Operand)
    (ho : o.op = .call { callee := .builtin .append, args := #[s, x], argTypes := #[48, 48] })
    (B : Nat) (v : Value) (n : Nat) (L : List Value) (A : Option Addr) (m c : Nat) (news : List Value) (hs : a.eval s = v) (hx : a.eval x = .slice A m c) (hown : OwnW W B v n L) (hl : news.length = m * 1)
    (hA : A = none → m = 0) (hnews : ∀ a, A = some a → ∀ j u, news[j]? = some u → W.cell? (a.add j) = some u) (h1 : ∀ u ∈ news, u.oneCell' = true) (hB : B ≤ W.heap.size) (hn : n + m ≤ 1000000000000)
    (h : ∀ v' w', OwnW w' B v' (n + m) (L ++ news) → W.grownBy w' v.ownBlock → Below B W w' → MovedX W v v' → (∀ g cap, v = .slice (some ⟨g, 0, none⟩) n cap → n + m ≤ cap → v' = .slice (some ⟨g, 0, none⟩) (n + m) cap) → wpList Try.prog ops Q rest (a.put o.dst v') w') : wpList Try.prog ops Q (o :: rest) a W :=
  wpList_plain hgd fun _ hK => wp_appW s x ho B v n L A m c news hs hx hown hl hA hnews h1 hB hn fun v' w' h2 h3 h4 h5 h6 => hK _ _ (h v' w' h2 h3 h4 h5 h6)
end Go.Proofs.Ytngpeehjjcgmmaa
namespace Go.Proofs.Ytngpeehjjcgmmaa
open Go.RowKit

set_option maxHeartbeats 2000000 in
set_option maxRecDepth 100000 in
theorem spec_l2Places (A : Option Addr) (cap : Nat) (xs : List Int) (w : World) (h : Ints w A xs) (hl : xs.length ≤ 100) (hx : ∀ x ∈ xs, 0 ≤ x ∧ x ≤ 1000) :
    Calls Try.prog 70 #[.slice A xs.length cap] w fun e w' => ∃ v, e = .returned v ∧ Own w' w.heap.size v (plcL xs) ∧ Below w.heap.size w w' := by
  have HO1 : Hid (Own (w.alloc (.cells #[.int .i64 0] 3)) w.heap.size (.slice (some ⟨w.heap.size, 0, none⟩) 1 1) (plcTo xs 1)) := own_one w 0 (Nat.le_refl _)
  have HB1 : Hid (Below w.heap.size w (w.alloc (.cells #[.int .i64 0] 3))) := (Below.refl _ _).alloc (Nat.le_refl _) _
  have HI := Lib.hid h
  have HX := Lib.hid hx
  clear h hx
  go_enter Try.func70, Try.ntmps70
  go_wp2_with fail
  go_loopg [3, 4] (xs.length + 1) (fun gg s3 s4 wr => ∃ (k : Nat), k ≤ xs.length ∧ s4 = .int .i64 k ∧ xs.length - k < gg ∧ Hid (Own wr w.heap.size s3 (plcTo xs (k + 1))) ∧ Hid (Below w.heap.size w wr))
  case atStart => exact ⟨0, Nat.zero_le _, rfl, by omega, HO1, HB1⟩
  case round =>
    clear HO1 HB1
    obtain ⟨k, hk, rfl, hg, HO, HB⟩ := hrel
    cases gk with
    | zero => omega
    | succ gl =>
    by_cases hlt : k < xs.length
    · obtain ⟨b, off, rfl, hb, hc⟩ := (HI.out.below HB.out) (by intro e; rw [e] at hlt; simp at hlt)
      have r1 := hc k xs[k] (List.getElem?_eq_getElem hlt)
      have hxk := HX.out xs[k] (List.getElem_mem hlt)
      have hpb := plcAt_bd HX.out k
      have hnext : plcAt xs (k + 1) = if k % 2 = 0 then plcAt xs k + xs[k] else plcAt xs k - xs[k] := by
        rw [plcAt, List.getD_eq_getElem?_getD, List.getElem?_eq_getElem hlt]; rfl
      obtain ⟨A3, c3, rfl, hI3, hc3, hm3⟩ := Own.form HO.out
      obtain ⟨b3, off3, rfl, hb3, hcc⟩ := hI3 (by intro e; have := congrArg List.length e; rw [plcTo_len, List.length_nil] at this; omega)
      have r2 := hcc k (plcAt xs k) (plcTo_get (by omega))
      obtain ⟨x, hx0⟩ : ∃ x, x = xs[k] := ⟨_, rfl⟩
      obtain ⟨p, hp0⟩ : ∃ p, p = plcAt xs k := ⟨_, rfl⟩
      rw [← hx0] at r1 hxk hnext
      rw [← hp0] at hpb hnext r2
      obtain ⟨m1, m2⟩ := mod2z k
      have k1 : (k : Int) < (xs.length : Int) := by omega
      have k0 : (0 : Int) ≤ (k : Int) := by omega
      have hpl := plcTo_len xs (k + 1)
      have k2 : (k : Int) < ((plcTo xs (k + 1)).length : Int) := by rw [hpl]; omega
      have hT := plcTo_succ xs (k + 1)
      have hown := HO.out
      have hsz := HB.out.size
      have hln : (plcTo xs (k + 1)).length ≤ 101 := by rw [plcTo_len]; omega
      clear hcc hc hI3 hc3 hm3 hpl
      by_cases he : k % 2 = 0
      · rw [if_pos he] at hnext
        rw [he] at m1 m2
        have kw : IntKind.i64.wrap (p + x) = p + x := IntWalk.i64_in _ (by omega)
        rw [hnext] at hT
        have HT := Lib.hid hT
        clear hx0 hp0 hnext hT he HO
        go_wp2_with fail
        have HW := Lib.hid hown
        have hin : Ints ((wr.drewN 1).alloc (.cells #[.int .i64 (p + x)] 3)) (some ⟨(wr.drewN 1).heap.size, 0, none⟩) [p + x] := Ints.of_own (own_one (wr.drewN 1) (p + x) (Nat.zero_le (wr.drewN 1).heap.size))
        have HIN := Lib.hid hin
        clear hin hown
        go_region_law (refine step_app (by rfl) _ _ (by rfl) w.heap.size _ (plcTo xs (k + 1)) [p + x] _ _ (by rfl) 1 rfl (by rfl) (own_below2' HW.out ((below_drewN (Below.refl _ _) 1).alloc (Nat.le_refl _) _)) HIN.out (Nat.le_trans hsz (by simp)) (by simp; omega) ?_; intro v4 w4 hown4 hgr4 hb4)
        all_goals
          rw [← HT.out] at hown4
          have HO4 := Lib.hid hown4
          have HB4 : Hid (Below w.heap.size w w4) := HB.out.trans (((below_drewN (Below.refl wr.heap.size wr) 1).alloc (Nat.le_refl _) _).mono hsz |>.trans hb4)
          clear hown4 hgr4 hb4
          go_wp2_with fail
          go_roundg gl
          case measure => omega
          case rel => exact ⟨k + 1, by omega, by go_num, by omega, HO4, HB4⟩
      · rw [if_neg he] at hnext
        rw [show k % 2 = 1 from by omega] at m1 m2
        have kw : IntKind.i64.wrap (p - x) = p - x := IntWalk.i64_in _ (by omega)
        rw [hnext] at hT
        have HT := Lib.hid hT
        clear hx0 hp0 hnext hT he HO
        go_wp2_with fail
        have HW := Lib.hid hown
        have hin : Ints ((wr.drewN 1).alloc (.cells #[.int .i64 (p - x)] 3)) (some ⟨(wr.drewN 1).heap.size, 0, none⟩) [p - x] := Ints.of_own (own_one (wr.drewN 1) (p - x) (Nat.zero_le (wr.drewN 1).heap.size))
        have HIN := Lib.hid hin
        clear hin hown
        go_region_law (refine step_app (by rfl) _ _ (by rfl) w.heap.size _ (plcTo xs (k + 1)) [p - x] _ _ (by rfl) 1 rfl (by rfl) (own_below2' HW.out ((below_drewN (Below.refl _ _) 1).alloc (Nat.le_refl _) _)) HIN.out (Nat.le_trans hsz (by simp)) (by simp; omega) ?_; intro v4 w4 hown4 hgr4 hb4)
        all_goals
          rw [← HT.out] at hown4
          have HO4 := Lib.hid hown4
          have HB4 : Hid (Below w.heap.size w w4) := HB.out.trans (((below_drewN (Below.refl wr.heap.size wr) 1).alloc (Nat.le_refl _) _).mono hsz |>.trans hb4)
          clear hown4 hgr4 hb4
          go_wp2_with fail
          go_roundg gl
          case measure => omega
          case rel => exact ⟨k + 1, by omega, by go_num, by omega, HO4, HB4⟩
    · obtain rfl : k = xs.length := by omega
      go_wp2_with fail
      go_ret
      exact ⟨_, rfl, HO.out, HB.out⟩
end Go.Proofs.Ytngpeehjjcgmmaa
namespace Go.Proofs.Ytngpeehjjcgmmaa
open Go.RowKit

theorem ints_get {w : World} {A : Option Addr} {xs : List Int} (h : Ints w A xs) {k : Nat} (hk : k < xs.length) : ∃ b off, A = some ⟨b, off, none⟩ ∧ b < w.heap.size ∧ w.cell? ⟨b, off + k, none⟩ = some (.int .i64 (xs.getD k 0)) := by
  obtain ⟨b, off, e, hb, hc⟩ := h (by intro e; rw [e] at hk; simp at hk)
  exact ⟨b, off, e, hb, hc k _ (getD_of hk)⟩
set_option maxHeartbeats 1000000 in
set_option maxRecDepth 100000 in
theorem spec_l2Covers (A : Option Addr) (cap k : Nat) (ps : List Int) (p : Int) (w : World) (h : Ints w A ps) (hk : k + 1 < ps.length) (hl : ps.length ≤ 1000) :
    Calls Try.prog 72 #[.slice A ps.length cap, .int .i64 k, .int .i64 p] w fun e w' => e = .returned (.bool (insB ps p k)) ∧ ∃ m, w.drewN m = w' := by
  obtain ⟨b, off, rfl, hb, c0⟩ := ints_get h (show k < ps.length by omega)
  obtain ⟨b', off', e', _, c1⟩ := ints_get h hk
  cases e'
  have HE : Hid (insB ps p k = (decide (min (ps.getD k 0) (ps.getD (k + 1) 0) < p) && decide (p < max (ps.getD k 0) (ps.getD (k + 1) 0)))) := rfl
  obtain ⟨x, hx⟩ : ∃ x, x = ps.getD k 0 := ⟨_, rfl⟩
  obtain ⟨y, hy⟩ : ∃ y, y = ps.getD (k + 1) 0 := ⟨_, rfl⟩
  rw [← hx] at c0 HE
  rw [← hy] at c1 HE
  have k0 : (0 : Int) ≤ (k : Int) := by omega
  have k1 : (k : Int) < (ps.length : Int) := by omega
  have k2 : (0 : Int) ≤ (k : Int) + 1 := by omega
  have k3 : (k : Int) + 1 < (ps.length : Int) := by omega
  have kw : IntKind.i64.wrap ((k : Int) + 1) = (k : Int) + 1 := IntWalk.i64_in _ (by omega)
  have c1' : w.cell? ⟨b, off + (k + 1), none⟩ = some (.int .i64 y) := c1
  clear hx hy h hk hl
  rcases Int.lt_trichotomy x y with hq | hq | hq
  · have hq2 : ¬ y < x := by omega
    by_cases g1 : x < p
    · by_cases g2 : p < y
      · have d1 : decide (x < p) = true := by simp; omega
        have d2 : decide (p < y) = true := by simp; omega
        have HR : Hid (insB ps p k = true) := by show _ = _; rw [HE.out]; simp; omega
        clear HE
        go_enter Try.func72, Try.ntmps72
        go_wp2_with fail
        go_quiet (fail)
        go_wp2_with fail
        go_ret
        exact ⟨ret_bool (by rw [HR.out]), _, rfl⟩
      · have d1 : decide (x < p) = true := by simp; omega
        have d2 : decide (p < y) = false := by simp; omega
        have HR : Hid (insB ps p k = false) := by show _ = _; rw [HE.out]; simp; omega
        clear HE
        go_enter Try.func72, Try.ntmps72
        go_wp2_with fail
        go_quiet (fail)
        go_wp2_with fail
        go_ret
        exact ⟨ret_bool (by rw [HR.out]), _, rfl⟩
    · have d1 : decide (x < p) = false := by simp; omega
      have HR : Hid (insB ps p k = false) := by show _ = _; rw [HE.out]; simp; omega
      clear HE
      go_enter Try.func72, Try.ntmps72
      go_wp2_with fail
      go_quiet (fail)
      go_wp2_with fail
      go_ret
      exact ⟨ret_bool (by rw [HR.out]), _, rfl⟩
  · subst hq
    have hq2 : ¬ x < x := by omega
    by_cases g1 : x < p
    · by_cases g2 : p < x
      · have d1 : decide (x < p) = true := by simp; omega
        have d2 : decide (p < x) = true := by simp; omega
        have HR : Hid (insB ps p k = true) := by show _ = _; rw [HE.out]; simp; omega
        clear HE
        go_enter Try.func72, Try.ntmps72
        go_wp2_with fail
        go_quiet (fail)
        go_wp2_with fail
        go_ret
        exact ⟨ret_bool (by rw [HR.out]), _, rfl⟩
      · have d1 : decide (x < p) = true := by simp; omega
        have d2 : decide (p < x) = false := by simp; omega
        have HR : Hid (insB ps p k = false) := by show _ = _; rw [HE.out]; simp; omega
        clear HE
        go_enter Try.func72, Try.ntmps72
        go_wp2_with fail
        go_quiet (fail)
        go_wp2_with fail
        go_ret
        exact ⟨ret_bool (by rw [HR.out]), _, rfl⟩
    · have d1 : decide (x < p) = false := by simp; omega
      have HR : Hid (insB ps p k = false) := by show _ = _; rw [HE.out]; simp; omega
      clear HE
      go_enter Try.func72, Try.ntmps72
      go_wp2_with fail
      go_quiet (fail)
      go_wp2_with fail
      go_ret
      exact ⟨ret_bool (by rw [HR.out]), _, rfl⟩
  · have hq2 : ¬ x < y := by omega
    by_cases g1 : y < p
    · by_cases g2 : p < x
      · have d1 : decide (y < p) = true := by simp; omega
        have d2 : decide (p < x) = true := by simp; omega
        have HR : Hid (insB ps p k = true) := by show _ = _; rw [HE.out]; simp; omega
        clear HE
        go_enter Try.func72, Try.ntmps72
        go_wp2_with fail
        go_quiet (fail)
        go_wp2_with fail
        go_ret
        exact ⟨ret_bool (by rw [HR.out]), _, rfl⟩
      · have d1 : decide (y < p) = true := by simp; omega
        have d2 : decide (p < x) = false := by simp; omega
        have HR : Hid (insB ps p k = false) := by show _ = _; rw [HE.out]; simp; omega
        clear HE
        go_enter Try.func72, Try.ntmps72
        go_wp2_with fail
        go_quiet (fail)
        go_wp2_with fail
        go_ret
        exact ⟨ret_bool (by rw [HR.out]), _, rfl⟩
    · have d1 : decide (y < p) = false := by simp; omega
      have HR : Hid (insB ps p k = false) := by show _ = _; rw [HE.out]; simp; omega
      clear HE
      go_enter Try.func72, Try.ntmps72
      go_wp2_with fail
      go_quiet (fail)
      go_wp2_with fail
      go_ret
      exact ⟨ret_bool (by rw [HR.out]), _, rfl⟩
set_option maxHeartbeats 2000000 in
set_option maxRecDepth 100000 in
theorem spec_l2Levels (A : Option Addr) (cap n : Nat) (L : List Int) (w : World) (h : Ints w A L) (hl : L.length ≤ 1000) (hn : n ≤ 100) (hok : ∀ j, j < n → 0 ≤ lvAt L L.length (j : Int)) :
    Calls Try.prog 69 #[.int .i64 n, .slice A L.length cap] w fun e w' => ∃ v, e = .returned v ∧ Own w' w.heap.size v (lvTo L n L.length) ∧ Below w.heap.size w w' := by
  have HO1 : Hid (Own (w.alloc (.cells #[] 3)) w.heap.size (.slice (some ⟨w.heap.size, 0, none⟩) 0 0) (lvTo L 0 L.length)) := own_empty w (Nat.le_refl _)
  have HB1 : Hid (Below w.heap.size w (w.alloc (.cells #[] 3))) := (Below.refl _ _).alloc (Nat.le_refl _) _
  have HI := Lib.hid h
  have HOK := Lib.hid hok
  clear h hok
  go_enter Try.func69, Try.ntmps69
  go_wp2_with fail
  go_loopg [5, 6, 7, 8] (n + 1) (fun gg s5 s6 s7 s8 wr => ∃ (j : Nat), s7 = s7 ∧ s8 = s8 ∧ j ≤ n ∧ s6 = .int .i64 j ∧ n - j < gg ∧ Hid (Own wr w.heap.size s5 (lvTo L j L.length)) ∧ Hid (Below w.heap.size w wr))
  case atStart => exact ⟨0, rfl, rfl, Nat.zero_le _, rfl, by omega, HO1, HB1⟩
  case round =>
    clear HO1 HB1
    obtain ⟨j, _, _, hj, rfl, hg, HO, HB⟩ := hrel
    cases gk with
    | zero => omega
    | succ g1 =>
    by_cases hlt : j < n
    · have j1 : (j : Int) < (n : Int) := by omega
      have j0 : (0 : Int) ≤ (j : Int) := by omega
      go_wp2_with fail
      obtain ⟨wA, hwA⟩ : ∃ wA, wA = wr := ⟨_, rfl⟩
      rw [← hwA] at HO HB ⊢
      clear hwA
      go_loopg [7, 8] (L.length + 1) (fun gg s7 s8 wr => ∃ (k : Nat), k ≤ L.length ∧ s7 = .int .i64 (lvAt L k (j : Int)) ∧ s8 = .int .i64 k ∧ L.length - k < gg ∧ Hid (wr = wA))
      case atStart => exact ⟨0, Nat.zero_le _, rfl, rfl, by omega, rfl⟩
      case round =>
        obtain ⟨k, hk, rfl, rfl, hg2, HW⟩ := hrel
        cases gk with
        | zero => omega
        | succ g2 =>
        by_cases hlt2 : k < L.length
        · have k1 : (k : Int) < (L.length : Int) := by omega
          have k0 : (0 : Int) ≤ (k : Int) := by omega
          obtain ⟨b, off, rfl, hbb, c0⟩ := ints_get (HI.out.below HB.out) hlt2
          rw [← HW.out] at c0
          have hs := lvAt_succ L k (j : Int)
          obtain ⟨x, hx⟩ : ∃ x, x = L.getD k 0 := ⟨_, rfl⟩
          rw [← hx] at c0 hs
          by_cases hxj : x = (j : Int)
          · have e1 : (x == (j : Int)) = true := by rw [beq_iff_eq]; exact hxj
            rw [if_pos hxj] at hs
            have HS := Lib.hid hs
            clear hs hx hxj
            go_wp2_with fail
            go_roundg g2
            case measure => omega
            case rel => exact ⟨k + 1, by omega, by rw [HS.out], by go_num, by omega, HW⟩
          · have e1 : (x == (j : Int)) = false := by rw [beq_eq_false_iff_ne]; exact hxj
            rw [if_neg hxj] at hs
            have HS := Lib.hid hs
            clear hs hx hxj
            go_wp2_with fail
            go_roundg g2
            case measure => omega
            case rel => exact ⟨k + 1, by omega, by rw [HS.out], by go_num, by omega, HW⟩
        · obtain rfl : k = L.length := by omega
          have hw := HW.out
          subst hw
          have hlv := HOK.out j hlt
          have hT : lvTo L (j + 1) L.length = lvTo L j L.length ++ [lvAt L L.length (j : Int)] := by
            unfold lvTo; rw [List.range_succ, List.map_append]; rfl
          obtain ⟨z, hz⟩ : ∃ z, z = lvAt L L.length (j : Int) := ⟨_, rfl⟩
          rw [← hz] at hlv hT ⊢
          have d1 : decide (z < 0) = false := by simp; omega
          have HT := Lib.hid hT
          have hsz := HB.out.size
          have hln : (lvTo L j L.length).length ≤ 100 := by rw [lvTo_len]; omega
          clear hT hz
          go_wp2_with (at_builtin; go_loud (refine wpList_push (W := wr) rfl _ _ rfl w.heap.size _ (lvTo L j L.length) z (by rfl) (by rfl) HO.out hsz (by omega) ?_))
          intro v4 w4 hown4 hgr4 hb4
          rw [← HT.out] at hown4
          have HO4 := Lib.hid hown4
          have HB4 := Lib.hid (HB.out.trans hb4)
          clear hown4 hgr4 hb4
          go_wp2_with fail
          go_roundg g1
          case measure => omega
          case rel => exact ⟨j + 1, trivial, trivial, by omega, by go_num, by omega, HO4, HB4⟩
    · obtain rfl : j = n := by omega
      go_wp2_with fail
      go_ret
      exact ⟨_, rfl, HO.out, HB.out⟩
end Go.Proofs.Ytngpeehjjcgmmaa
