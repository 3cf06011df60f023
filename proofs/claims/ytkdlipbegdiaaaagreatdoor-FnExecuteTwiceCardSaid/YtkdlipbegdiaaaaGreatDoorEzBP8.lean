/- Rows in memory: what a slice reads as. No condition but sizes. Rows in memory: append to rows of cells, of stacks, of rows of stacks. No condition but sizes. -/
import Derived.Test.YtkdlipbegdiaaaaGreatDoorEzBP2
import Derived.Test.YtkdlipbegdiaaaaGreatDoorEzBP6
import Derived.Test.YtkdlipbegdiaaaaGreatDoorEzBP1
namespace Go.Proofs.YtkdlipbegdiaaaaGreatDoor
open Go.RowKit
/-- what a slice reads as, cell by cell -/
def RowV (w : World) (A : Option Addr) (L : List Value) : Prop :=
  L ≠ [] → ∃ b off, A = some ⟨b, off, none⟩ ∧ b < w.heap.size ∧ ∀ j u, L[j]? = some u → w.cell? ⟨b, off + j, none⟩ = some u
theorem RowV.nil (w : World) (A : Option Addr) : RowV w A [] := fun h => absurd rfl h
theorem RowV.below {w w' : World} {A : Option Addr} {L : List Value} (h : RowV w A L) (hb : Below w.heap.size w w') : RowV w' A L := by
  intro hn
  obtain ⟨b, off, e, hlt, hc⟩ := h hn
  exact ⟨b, off, e, Nat.lt_of_lt_of_le hlt hb.size, fun j u hj => (hb.cell (p := ⟨b, off + j, none⟩) hlt).trans (hc j u hj)⟩
theorem RowV.alloc {w : World} {A : Option Addr} {L : List Value} (h : RowV w A L) (o : Obj) : RowV (w.alloc o) A L :=
  h.below ((Below.refl _ _).alloc (Nat.le_refl _) o)
theorem RowV.of_own {w : World} {base : Nat} {e : TypeId} {z : Nat} {A : Option Addr} {n c : Nat} {L : List Value} (h : w.ownsRow base e z (.slice A n c) n L) : RowV w A L := by
  intro hn
  have hlen := h.1
  rcases h.2 with ⟨_, h0⟩ | ⟨g, cap, cur, hv, hb, hg, hnc, _, _, htake⟩
  · exfalso; apply hn; apply List.eq_nil_of_length_eq_zero; rw [hlen, h0]; simp
  · injection hv with hA
    subst hA
    refine ⟨g, 0, rfl, (Array.getElem?_eq_some_iff.1 hg).1, fun k x hx => ?_⟩
    have := h.cells (g := g) rfl k x hx
    rw [← this]
    congr 1
    unfold Addr.add
    split
    · next h0 => subst h0; simp
    · simp
theorem RowV.news {w : World} {A : Option Addr} {L : List Value} (h : RowV w A L) : ∀ a, A = some a → ∀ j u, L[j]? = some u → w.cell? (a.add j) = some u := by
  intro a ha j u hj
  obtain ⟨b, off, e, _, hc⟩ := h (show L ≠ [] from fun e => by rw [e] at hj; simp at hj)
  rw [ha] at e
  have e2 : a = ⟨b, off, none⟩ := Option.some.inj e
  rw [e2, Addr.add_lit]
  exact hc j u hj
theorem RowV.none_ {w : World} {L : List Value} (h : RowV w none L) : L = [] := by
  apply Classical.byContradiction
  intro hne
  obtain ⟨b, off, e, _⟩ := h hne
  cases e
theorem own_belowX {w w' : World} {B : Nat} {e : TypeId} {z n : Nat} {v : Value} {xs : List Value} (h : w.ownsRow B e z v n xs) (hb : Below w.heap.size w w') : w'.ownsRow B e z v n xs :=
  h.kept (row := none) ⟨hb.os, hb.tape, hb.output, hb.size, fun i hi _ => hb.block i hi⟩ (by cases hv : v.ownBlock <;> simp)
/-- the form of an own row -/
theorem own_formX {w : World} {B : Nat} {e : TypeId} {z n : Nat} {v : Value} {L : List Value} (h : w.ownsRow B e z v n L) : ∃ A c, v = .slice A n c ∧ RowV w A L ∧ n ≤ c ∧ c ≤ maxLen := by
  rcases h.2 with ⟨rfl, h0⟩ | ⟨g, cap, cur, rfl, hb, hg, hnc, hcm, _, _⟩
  · exact ⟨none, 0, by rw [h0], by rw [List.eq_nil_of_length_eq_zero (show L.length = 0 by rw [h.1, h0]; simp)]; exact RowV.nil _ _, by omega, by simp [maxLen]⟩
  · exact ⟨_, cap, rfl, RowV.of_own h, hnc, hcm⟩
def MovedX (W : World) (v v' : Value) : Prop := v'.ownBlock = v.ownBlock ∨ ∀ g, v'.ownBlock = some g → W.heap.size ≤ g
theorem RowV.lit (W : World) (L : List Value) (t : TypeId) : RowV (W.alloc (.cells L.toArray t)) (some ⟨W.heap.size, 0, none⟩) L := by
  intro _
  refine ⟨W.heap.size, 0, rfl, by simp, fun j u hj => ?_⟩
  have hK := Blk.new W t L.toArray
  rw [Nat.zero_add, hK.cell j]
  simpa using hj
end Go.Proofs.YtkdlipbegdiaaaaGreatDoor
namespace Go.Proofs.YtkdlipbegdiaaaaGreatDoor
open Go.RowKit
/-- a cell's values -/
def clV (c : Cl) : List Value := [.int .i64 c.1, .int .i64 c.2.1, .bool c.2.2.1, .bool c.2.2.2]
def clL (xs : List Cl) : List Value := xs.flatMap clV
theorem clL_len (xs : List Cl) : (clL xs).length = xs.length * 4 := by
  induction xs with
  | nil => rfl
  | cons f r ih =>
    show (clV f ++ clL r).length = _
    rw [List.length_append, ih, List.length_cons]
    show 4 + _ = _
    omega
theorem clL_app (a b : List Cl) : clL (a ++ b) = clL a ++ clL b := by simp [clL]
theorem clL_one (c : Cl) : clL [c] = clV c := by simp [clL]
theorem clL_get {fs : List Cl} {k j : Nat} (hk : k < fs.length) (hj : j < 4) : (clL fs)[k * 4 + j]? = (clV fs[k])[j]? := by
  induction fs generalizing k with
  | nil => simp at hk
  | cons f r ih =>
    show (clV f ++ clL r)[k * 4 + j]? = _
    have h4 : (clV f).length = 4 := rfl
    cases k with
    | zero =>
      rw [Nat.zero_mul, Nat.zero_add, List.getElem?_append_left (by omega)]; rfl
    | succ k =>
      rw [List.getElem?_append_right (by omega), h4, show (k + 1) * 4 + j - 4 = k * 4 + j from by omega]
      exact ih (by simpa using hk)
theorem cl_one (xs : List Cl) : ∀ u ∈ clL xs, u.oneCell' = true := by
  intro u hu
  unfold clL at hu
  obtain ⟨c, _, hc⟩ := List.mem_flatMap.1 hu
  simp only [clV, List.mem_cons, List.not_mem_nil, or_false] at hc
  rcases hc with rfl | rfl | rfl | rfl <;> rfl
/-- the cell k of a row of cells -/
theorem RowV.cl {w : World} {A : Option Addr} {xs : List Cl} (h : RowV w A (clL xs)) {k : Nat} (hk : k < xs.length) : ∃ b off, A = some ⟨b, off, none⟩ ∧ b < w.heap.size ∧ w.cell? ⟨b, off + k * 4, none⟩ = some (.int .i64 xs[k].1) ∧ w.cell? ⟨b, off + k * 4 + 1, none⟩ = some (.int .i64 xs[k].2.1) ∧ w.cell? ⟨b, off + k * 4 + 2, none⟩ = some (.bool xs[k].2.2.1) ∧ w.cell? ⟨b, off + k * 4 + 3, none⟩ = some (.bool xs[k].2.2.2) := by
  obtain ⟨b, off, e, hb, hc⟩ := h (show clL xs ≠ [] from fun e => by have := congrArg List.length e; rw [clL_len, List.length_nil] at this; omega)
  have h0 := hc (k * 4 + 0) _ ((clL_get hk (j := 0) (by omega)).trans rfl)
  have h1 := hc (k * 4 + 1) _ ((clL_get hk (j := 1) (by omega)).trans rfl)
  have h2 := hc (k * 4 + 2) _ ((clL_get hk (j := 2) (by omega)).trans rfl)
  have h3 := hc (k * 4 + 3) _ ((clL_get hk (j := 3) (by omega)).trans rfl)
  exact ⟨b, off, e, hb, h0, by rw [Nat.add_assoc]; exact h1, by rw [Nat.add_assoc]; exact h2, by rw [Nat.add_assoc]; exact h3⟩
theorem Tryz.infoCl : (Tryz.prog.info? 131).map (fun i => (i.zero, i.size, i.bytes)) = some (some (.agg #[.int .i64 0, .int .i64 0, .bool false, .bool false]), 4, 24) := by kernel_rfl
/-- a row of the call's own -/
abbrev OwnC (w : World) (B : Nat) (v : Value) (n : Nat) (L : List Value) : Prop := w.ownsRow B 131 4 v n L
set_option maxRecDepth 100000 in
theorem run_appC (W : World) (B : Nat) (ty : TypeId) (v : Value) (n : Nat) (L : List Value) (A : Option Addr) (m c : Nat) (news : List Value) (hown : OwnC W B v n L) (hl : news.length = m * 4)
    (hA : A = none → m = 0) (hnews : ∀ a, A = some a → ∀ j u, news[j]? = some u → W.cell? (a.add j) = some u) (h1 : ∀ u ∈ news, u.oneCell' = true) (hB : B ≤ W.heap.size) (hn : n + m ≤ 1000000000000) :
    ∃ v' w', (Builtin.append_ #[127, 127] ty #[v, .slice A m c]).run Tryz.prog W = .ok v' w' ∧ OwnC w' B v' (n + m) (L ++ news) ∧ W.grownBy w' v.ownBlock ∧ Below B W w' ∧ MovedX W v v' ∧
      (∀ g cap, v = .slice (some ⟨g, 0, none⟩) n cap → n + m ≤ cap → v' = .slice (some ⟨g, 0, none⟩) (n + m) cap) := by
  obtain ⟨i0, hi, hz0, hz1, hz2⟩ := info_parts Tryz.infoCl
  cases A with
  | none =>
    have hm := hA rfl
    subst hm
    have hnil : news = [] := List.eq_nil_of_length_eq_zero (by omega)
    subst hnil
    refine ⟨v, W, run_app_nil W B _ ty _ i0 4 Tryz.underlying127 hi v _ _ hown c, by simpa using hown, World.grownBy.refl W _, Below.refl _ _, Or.inl rfl, fun g cap e _ => by simpa using e⟩
  | some ad =>
    have hnews' := hnews ad rfl
    obtain ⟨v', w', hrun, h2, h3, _⟩ := run_append_own (P := Tryz.prog) W B 127 ty 131 i0 (.agg #[.int .i64 0, .int .i64 0, .bool false, .bool false]) 4 24 Tryz.underlying127 hi hz0 hz1 hz2 rfl (by decide) v _ _ hown ad m c news hl hnews' h1 (by unfold maxLen; omega) (by omega) hB
    have hroom : ∀ g cap, v = .slice (some ⟨g, 0, none⟩) n cap → n + m ≤ cap → v' = .slice (some ⟨g, 0, none⟩) (n + m) cap := by
      intro g cap hv hr
      rcases hown.2 with ⟨e, _⟩ | ⟨g', cap', cur, e, hb, hg, hnc, hcm, hcs, htake⟩
      · rw [hv] at e; cases e
      · rw [hv] at e
        injection e with e1 e2 e3
        injection e1 with e1
        injection e1 with e1
        subst e1 e3
        subst hv
        have hcl : ∀ j, j < news.length → n * 4 + j < cur.size := by intro j hj; omega
        have hrun2 := run_append_room_cells (P := Tryz.prog) W 127 ty 131 i0 Tryz.underlying127 hi g 0 n cap ad m c news (by rw [hz1]; exact hl) hnews' h1 hr
          (by intro j hj
              rw [hz1, cell_of_row W g _ cur 131 (0, 0) hg, Nat.zero_add, Array.getElem?_eq_getElem (hcl j hj)]; rfl) (by intro j _; simp [World.frozen?, hg])
        rw [hrun2] at hrun
        exact ((Result.ok.injEq _ _ _ _ ▸ hrun).1).symm
    refine ⟨v', w', hrun, h2, h3, (Below.refl _ _).grown h3 hB fun k hk => (hown.lt k hk).1, ?_, hroom⟩
    rcases hown.2 with ⟨e, h0⟩ | ⟨g, cap, cur, e, hb, hg, hnc, hcm, hcs, htake⟩
    · right
      have hx0 : L = [] := List.eq_nil_of_length_eq_zero (by rw [hown.1, h0])
      subst e h0 hx0
      obtain ⟨v2, w2, hrun2, h22, _, _⟩ := run_append_own (P := Tryz.prog) W W.heap.size 127 ty 131 i0 (.agg #[.int .i64 0, .int .i64 0, .bool false, .bool false]) 4 24 Tryz.underlying127 hi hz0 hz1 hz2 rfl (by decide) (.slice none 0 0) 0 [] ⟨rfl, Or.inl ⟨rfl, rfl⟩⟩ ad m c news hl hnews' h1 (by unfold maxLen; omega) (by omega) (Nat.le_refl _)
      rw [hrun2] at hrun
      injection hrun with e1 e2
      subst e1 e2
      exact fun g hg => (h22.lt g hg).1
    · by_cases hr : n + m ≤ cap
      · left
        rw [hroom g cap e hr, e]; rfl
      · right
        subst e
        obtain ⟨v2, w2, hrun2, hown2, _⟩ := run_append_arg_grows (P := Tryz.prog) W 127 ty 131 i0 (.agg #[.int .i64 0, .int .i64 0, .bool false, .bool false]) 4 24 Tryz.underlying127 hi hz0 hz1 hz2 rfl (by decide) ⟨g, 0, none⟩ n cap L hown.1
          (fun j u hj => hown.cells (g := g) rfl j u hj) ad m c news hl hnews' (by omega) (by unfold maxLen; omega) (by omega)
        rw [hrun2] at hrun
        injection hrun with e1 e2
        subst e1 e2
        exact fun q hq => (hown2.lt q hq).1
theorem wp_appC {o : Oper} {a : Act} {W : World} {K : Act → World → Prop} {Q : Exit → Act → World → Prop} (s x : Operand)
    (ho : o.op = .call { callee := .builtin .append, args := #[s, x], argTypes := #[127, 127] })
    (B : Nat) (v : Value) (n : Nat) (L : List Value) (A : Option Addr) (m c : Nat) (news : List Value) (hs : a.eval s = v) (hx : a.eval x = .slice A m c) (hown : OwnC W B v n L) (hl : news.length = m * 4)
    (hA : A = none → m = 0) (hnews : ∀ a, A = some a → ∀ j u, news[j]? = some u → W.cell? (a.add j) = some u) (h1 : ∀ u ∈ news, u.oneCell' = true) (hB : B ≤ W.heap.size) (hn : n + m ≤ 1000000000000)
    (h : ∀ v' w', OwnC w' B v' (n + m) (L ++ news) → W.grownBy w' v.ownBlock → Below B W w' → MovedX W v v' → (∀ g cap, v = .slice (some ⟨g, 0, none⟩) n cap → n + m ≤ cap → v' = .slice (some ⟨g, 0, none⟩) (n + m) cap) → K (a.put o.dst v') w') : o.wp Tryz.prog a W K Q := by
  obtain ⟨v', w', hrun, h2, h3, h4, h5, h6⟩ := run_appC W B o.type v n L A m c news hown hl hA hnews h1 hB hn
  unfold Oper.wp execOp
  simp only [ho, resolve, invoke, builtin, Sem.run_bind, Sem.run_pure, Result.andThen_ok, List.map_toArray, List.map_cons, List.map_nil, hs, hx, hrun]
  exact h v' w' h2 h3 h4 h5 h6
theorem wpList_appC {ops : Array Oper} {rest : List Oper} {o : Oper} {a : Act} {W : World} {Q : Exit → Act → World → Prop} (hgd : o.guard = none) (s x : Operand)
    (ho : o.op = .call { callee := .builtin .append, args := #[s, x], argTypes := #[127, 127] })
    (B : Nat) (v : Value) (n : Nat) (L : List Value) (A : Option Addr) (m c : Nat) (news : List Value) (hs : a.eval s = v) (hx : a.eval x = .slice A m c) (hown : OwnC W B v n L) (hl : news.length = m * 4)
    (hA : A = none → m = 0) (hnews : ∀ a, A = some a → ∀ j u, news[j]? = some u → W.cell? (a.add j) = some u) (h1 : ∀ u ∈ news, u.oneCell' = true) (hB : B ≤ W.heap.size) (hn : n + m ≤ 1000000000000)
    (h : ∀ v' w', OwnC w' B v' (n + m) (L ++ news) → W.grownBy w' v.ownBlock → Below B W w' → MovedX W v v' → (∀ g cap, v = .slice (some ⟨g, 0, none⟩) n cap → n + m ≤ cap → v' = .slice (some ⟨g, 0, none⟩) (n + m) cap) → wpList Tryz.prog ops Q rest (a.put o.dst v') w') : wpList Tryz.prog ops Q (o :: rest) a W :=
  wpList_plain hgd fun _ hK => wp_appC s x ho B v n L A m c news hs hx hown hl hA hnews h1 hB hn fun v' w' h2 h3 h4 h5 h6 => hK _ _ (h v' w' h2 h3 h4 h5 h6)
theorem Tryz.infoRw : (Tryz.prog.info? 127).map (fun i => (i.zero, i.size, i.bytes)) = some (some (.slice none 0 0), 1, 24) := by kernel_rfl
/-- a row of the call's own -/
abbrev OwnR (w : World) (B : Nat) (v : Value) (n : Nat) (L : List Value) : Prop := w.ownsRow B 127 1 v n L
set_option maxRecDepth 100000 in
theorem run_appR (W : World) (B : Nat) (ty : TypeId) (v : Value) (n : Nat) (L : List Value) (A : Option Addr) (m c : Nat) (news : List Value) (hown : OwnR W B v n L) (hl : news.length = m * 1)
    (hA : A = none → m = 0) (hnews : ∀ a, A = some a → ∀ j u, news[j]? = some u → W.cell? (a.add j) = some u) (h1 : ∀ u ∈ news, u.oneCell' = true) (hB : B ≤ W.heap.size) (hn : n + m ≤ 1000000000000) :
    ∃ v' w', (Builtin.append_ #[177, 177] ty #[v, .slice A m c]).run Tryz.prog W = .ok v' w' ∧ OwnR w' B v' (n + m) (L ++ news) ∧ W.grownBy w' v.ownBlock ∧ Below B W w' ∧ MovedX W v v' ∧
      (∀ g cap, v = .slice (some ⟨g, 0, none⟩) n cap → n + m ≤ cap → v' = .slice (some ⟨g, 0, none⟩) (n + m) cap) := by
  obtain ⟨i0, hi, hz0, hz1, hz2⟩ := info_parts Tryz.infoRw
  cases A with
  | none =>
    have hm := hA rfl
    subst hm
    have hnil : news = [] := List.eq_nil_of_length_eq_zero (by omega)
    subst hnil
    refine ⟨v, W, run_app_nil W B _ ty _ i0 1 Tryz.underlying177 hi v _ _ hown c, by simpa using hown, World.grownBy.refl W _, Below.refl _ _, Or.inl rfl, fun g cap e _ => by simpa using e⟩
  | some ad =>
    have hnews' := hnews ad rfl
    obtain ⟨v', w', hrun, h2, h3, _⟩ := run_append_own (P := Tryz.prog) W B 177 ty 127 i0 (.slice none 0 0) 1 24 Tryz.underlying177 hi hz0 hz1 hz2 rfl (by decide) v _ _ hown ad m c news hl hnews' h1 (by unfold maxLen; omega) (by omega) hB
    have hroom : ∀ g cap, v = .slice (some ⟨g, 0, none⟩) n cap → n + m ≤ cap → v' = .slice (some ⟨g, 0, none⟩) (n + m) cap := by
      intro g cap hv hr
      rcases hown.2 with ⟨e, _⟩ | ⟨g', cap', cur, e, hb, hg, hnc, hcm, hcs, htake⟩
      · rw [hv] at e; cases e
      · rw [hv] at e
        injection e with e1 e2 e3
        injection e1 with e1
        injection e1 with e1
        subst e1 e3
        subst hv
        have hcl : ∀ j, j < news.length → n * 1 + j < cur.size := by intro j hj; omega
        have hrun2 := run_append_room_cells (P := Tryz.prog) W 177 ty 127 i0 Tryz.underlying177 hi g 0 n cap ad m c news (by rw [hz1]; exact hl) hnews' h1 hr
          (by intro j hj
              rw [hz1, cell_of_row W g _ cur 127 (0, 0) hg, Nat.zero_add, Array.getElem?_eq_getElem (hcl j hj)]; rfl) (by intro j _; simp [World.frozen?, hg])
        rw [hrun2] at hrun
        exact ((Result.ok.injEq _ _ _ _ ▸ hrun).1).symm
    refine ⟨v', w', hrun, h2, h3, (Below.refl _ _).grown h3 hB fun k hk => (hown.lt k hk).1, ?_, hroom⟩
    rcases hown.2 with ⟨e, h0⟩ | ⟨g, cap, cur, e, hb, hg, hnc, hcm, hcs, htake⟩
    · right
      have hx0 : L = [] := List.eq_nil_of_length_eq_zero (by rw [hown.1, h0])
      subst e h0 hx0
      obtain ⟨v2, w2, hrun2, h22, _, _⟩ := run_append_own (P := Tryz.prog) W W.heap.size 177 ty 127 i0 (.slice none 0 0) 1 24 Tryz.underlying177 hi hz0 hz1 hz2 rfl (by decide) (.slice none 0 0) 0 [] ⟨rfl, Or.inl ⟨rfl, rfl⟩⟩ ad m c news hl hnews' h1 (by unfold maxLen; omega) (by omega) (Nat.le_refl _)
      rw [hrun2] at hrun
      injection hrun with e1 e2
      subst e1 e2
      exact fun g hg => (h22.lt g hg).1
    · by_cases hr : n + m ≤ cap
      · left
        rw [hroom g cap e hr, e]; rfl
      · right
        subst e
        obtain ⟨v2, w2, hrun2, hown2, _⟩ := run_append_arg_grows (P := Tryz.prog) W 177 ty 127 i0 (.slice none 0 0) 1 24 Tryz.underlying177 hi hz0 hz1 hz2 rfl (by decide) ⟨g, 0, none⟩ n cap L hown.1
          (fun j u hj => hown.cells (g := g) rfl j u hj) ad m c news hl hnews' (by omega) (by unfold maxLen; omega) (by omega)
        rw [hrun2] at hrun
        injection hrun with e1 e2
        subst e1 e2
        exact fun q hq => (hown2.lt q hq).1
theorem wp_appR {o : Oper} {a : Act} {W : World} {K : Act → World → Prop} {Q : Exit → Act → World → Prop} (s x : Operand)
    (ho : o.op = .call { callee := .builtin .append, args := #[s, x], argTypes := #[177, 177] })
    (B : Nat) (v : Value) (n : Nat) (L : List Value) (A : Option Addr) (m c : Nat) (news : List Value) (hs : a.eval s = v) (hx : a.eval x = .slice A m c) (hown : OwnR W B v n L) (hl : news.length = m * 1)
    (hA : A = none → m = 0) (hnews : ∀ a, A = some a → ∀ j u, news[j]? = some u → W.cell? (a.add j) = some u) (h1 : ∀ u ∈ news, u.oneCell' = true) (hB : B ≤ W.heap.size) (hn : n + m ≤ 1000000000000)
    (h : ∀ v' w', OwnR w' B v' (n + m) (L ++ news) → W.grownBy w' v.ownBlock → Below B W w' → MovedX W v v' → (∀ g cap, v = .slice (some ⟨g, 0, none⟩) n cap → n + m ≤ cap → v' = .slice (some ⟨g, 0, none⟩) (n + m) cap) → K (a.put o.dst v') w') : o.wp Tryz.prog a W K Q := by
  obtain ⟨v', w', hrun, h2, h3, h4, h5, h6⟩ := run_appR W B o.type v n L A m c news hown hl hA hnews h1 hB hn
  unfold Oper.wp execOp
  simp only [ho, resolve, invoke, builtin, Sem.run_bind, Sem.run_pure, Result.andThen_ok, List.map_toArray, List.map_cons, List.map_nil, hs, hx, hrun]
  exact h v' w' h2 h3 h4 h5 h6
theorem step_appR {ops : Array Oper} {o : Oper} {a : Act} {W : World} {K : Act → World → Prop} {Q : Exit → Act → World → Prop} {E : Prop} (hgd : o.guard = none) (s x : Operand)
    (ho : o.op = .call { callee := .builtin .append, args := #[s, x], argTypes := #[177, 177] })
    (B : Nat) (v : Value) (n : Nat) (L : List Value) (A : Option Addr) (m c : Nat) (news : List Value) (hs : a.eval s = v) (hx : a.eval x = .slice A m c) (hown : OwnR W B v n L) (hl : news.length = m * 1)
    (hA : A = none → m = 0) (hnews : ∀ a, A = some a → ∀ j u, news[j]? = some u → W.cell? (a.add j) = some u) (h1 : ∀ u ∈ news, u.oneCell' = true) (hB : B ≤ W.heap.size) (hn : n + m ≤ 1000000000000)
    (h : ∀ v' w', OwnR w' B v' (n + m) (L ++ news) → W.grownBy w' v.ownBlock → Below B W w' → MovedX W v v' → (∀ g cap, v = .slice (some ⟨g, 0, none⟩) n cap → n + m ≤ cap → v' = .slice (some ⟨g, 0, none⟩) (n + m) cap) → K (a.put o.dst v') w') :
    if Region.wanted o (yielded ops a.tmps) = true then Oper.wp Tryz.prog o a W K Q else E := by
  have hw : Region.wanted o (yielded ops a.tmps) = true := by simp [Region.wanted, hgd]
  rw [if_pos hw]
  exact wp_appR s x ho B v n L A m c news hs hx hown hl hA hnews h1 hB hn h
theorem wpList_appR {ops : Array Oper} {rest : List Oper} {o : Oper} {a : Act} {W : World} {Q : Exit → Act → World → Prop} (hgd : o.guard = none) (s x : Operand)
    (ho : o.op = .call { callee := .builtin .append, args := #[s, x], argTypes := #[177, 177] })
    (B : Nat) (v : Value) (n : Nat) (L : List Value) (A : Option Addr) (m c : Nat) (news : List Value) (hs : a.eval s = v) (hx : a.eval x = .slice A m c) (hown : OwnR W B v n L) (hl : news.length = m * 1)
    (hA : A = none → m = 0) (hnews : ∀ a, A = some a → ∀ j u, news[j]? = some u → W.cell? (a.add j) = some u) (h1 : ∀ u ∈ news, u.oneCell' = true) (hB : B ≤ W.heap.size) (hn : n + m ≤ 1000000000000)
    (h : ∀ v' w', OwnR w' B v' (n + m) (L ++ news) → W.grownBy w' v.ownBlock → Below B W w' → MovedX W v v' → (∀ g cap, v = .slice (some ⟨g, 0, none⟩) n cap → n + m ≤ cap → v' = .slice (some ⟨g, 0, none⟩) (n + m) cap) → wpList Tryz.prog ops Q rest (a.put o.dst v') w') : wpList Tryz.prog ops Q (o :: rest) a W :=
  wpList_plain hgd fun _ hK => wp_appR s x ho B v n L A m c news hs hx hown hl hA hnews h1 hB hn fun v' w' h2 h3 h4 h5 h6 => hK _ _ (h v' w' h2 h3 h4 h5 h6)
theorem Tryz.infoGd : (Tryz.prog.info? 177).map (fun i => (i.zero, i.size, i.bytes)) = some (some (.slice none 0 0), 1, 24) := by kernel_rfl
/-- a row of the call's own -/
abbrev OwnG (w : World) (B : Nat) (v : Value) (n : Nat) (L : List Value) : Prop := w.ownsRow B 177 1 v n L
set_option maxRecDepth 100000 in
theorem run_appG (W : World) (B : Nat) (ty : TypeId) (v : Value) (n : Nat) (L : List Value) (A : Option Addr) (m c : Nat) (news : List Value) (hown : OwnG W B v n L) (hl : news.length = m * 1)
    (hA : A = none → m = 0) (hnews : ∀ a, A = some a → ∀ j u, news[j]? = some u → W.cell? (a.add j) = some u) (h1 : ∀ u ∈ news, u.oneCell' = true) (hB : B ≤ W.heap.size) (hn : n + m ≤ 1000000000000) :
    ∃ v' w', (Builtin.append_ #[176, 176] ty #[v, .slice A m c]).run Tryz.prog W = .ok v' w' ∧ OwnG w' B v' (n + m) (L ++ news) ∧ W.grownBy w' v.ownBlock ∧ Below B W w' ∧ MovedX W v v' ∧
      (∀ g cap, v = .slice (some ⟨g, 0, none⟩) n cap → n + m ≤ cap → v' = .slice (some ⟨g, 0, none⟩) (n + m) cap) := by
  obtain ⟨i0, hi, hz0, hz1, hz2⟩ := info_parts Tryz.infoGd
  cases A with
  | none =>
    have hm := hA rfl
    subst hm
    have hnil : news = [] := List.eq_nil_of_length_eq_zero (by omega)
    subst hnil
    refine ⟨v, W, run_app_nil W B _ ty _ i0 1 Tryz.underlying176 hi v _ _ hown c, by simpa using hown, World.grownBy.refl W _, Below.refl _ _, Or.inl rfl, fun g cap e _ => by simpa using e⟩
  | some ad =>
    have hnews' := hnews ad rfl
    obtain ⟨v', w', hrun, h2, h3, _⟩ := run_append_own (P := Tryz.prog) W B 176 ty 177 i0 (.slice none 0 0) 1 24 Tryz.underlying176 hi hz0 hz1 hz2 rfl (by decide) v _ _ hown ad m c news hl hnews' h1 (by unfold maxLen; omega) (by omega) hB
    have hroom : ∀ g cap, v = .slice (some ⟨g, 0, none⟩) n cap → n + m ≤ cap → v' = .slice (some ⟨g, 0, none⟩) (n + m) cap := by
      intro g cap hv hr
      rcases hown.2 with ⟨e, _⟩ | ⟨g', cap', cur, e, hb, hg, hnc, hcm, hcs, htake⟩
      · rw [hv] at e; cases e
      · rw [hv] at e
        injection e with e1 e2 e3
        injection e1 with e1
        injection e1 with e1
        subst e1 e3
        subst hv
        have hcl : ∀ j, j < news.length → n * 1 + j < cur.size := by intro j hj; omega
        have hrun2 := run_append_room_cells (P := Tryz.prog) W 176 ty 177 i0 Tryz.underlying176 hi g 0 n cap ad m c news (by rw [hz1]; exact hl) hnews' h1 hr
          (by intro j hj
              rw [hz1, cell_of_row W g _ cur 177 (0, 0) hg, Nat.zero_add, Array.getElem?_eq_getElem (hcl j hj)]; rfl) (by intro j _; simp [World.frozen?, hg])
        rw [hrun2] at hrun
        exact ((Result.ok.injEq _ _ _ _ ▸ hrun).1).symm
    refine ⟨v', w', hrun, h2, h3, (Below.refl _ _).grown h3 hB fun k hk => (hown.lt k hk).1, ?_, hroom⟩
    rcases hown.2 with ⟨e, h0⟩ | ⟨g, cap, cur, e, hb, hg, hnc, hcm, hcs, htake⟩
    · right
      have hx0 : L = [] := List.eq_nil_of_length_eq_zero (by rw [hown.1, h0])
      subst e h0 hx0
      obtain ⟨v2, w2, hrun2, h22, _, _⟩ := run_append_own (P := Tryz.prog) W W.heap.size 176 ty 177 i0 (.slice none 0 0) 1 24 Tryz.underlying176 hi hz0 hz1 hz2 rfl (by decide) (.slice none 0 0) 0 [] ⟨rfl, Or.inl ⟨rfl, rfl⟩⟩ ad m c news hl hnews' h1 (by unfold maxLen; omega) (by omega) (Nat.le_refl _)
      rw [hrun2] at hrun
      injection hrun with e1 e2
      subst e1 e2
      exact fun g hg => (h22.lt g hg).1
    · by_cases hr : n + m ≤ cap
      · left
        rw [hroom g cap e hr, e]; rfl
      · right
        subst e
        obtain ⟨v2, w2, hrun2, hown2, _⟩ := run_append_arg_grows (P := Tryz.prog) W 176 ty 177 i0 (.slice none 0 0) 1 24 Tryz.underlying176 hi hz0 hz1 hz2 rfl (by decide) ⟨g, 0, none⟩ n cap L hown.1
          (fun j u hj => hown.cells (g := g) rfl j u hj) ad m c news hl hnews' (by omega) (by unfold maxLen; omega) (by omega)
        rw [hrun2] at hrun
        injection hrun with e1 e2
        subst e1 e2
        exact fun q hq => (hown2.lt q hq).1
theorem wp_appG {o : Oper} {a : Act} {W : World} {K : Act → World → Prop} {Q : Exit → Act → World → Prop} (s x : Operand)
    (ho : o.op = .call { callee := .builtin .append, args := #[s, x], argTypes := #[176, 176] })
    (B : Nat) (v : Value) (n : Nat) (L : List Value) (A : Option Addr) (m c : Nat) (news : List Value) (hs : a.eval s = v) (hx : a.eval x = .slice A m c) (hown : OwnG W B v n L) (hl : news.length = m * 1)
    (hA : A = none → m = 0) (hnews : ∀ a, A = some a → ∀ j u, news[j]? = some u → W.cell? (a.add j) = some u) (h1 : ∀ u ∈ news, u.oneCell' = true) (hB : B ≤ W.heap.size) (hn : n + m ≤ 1000000000000)
    (h : ∀ v' w', OwnG w' B v' (n + m) (L ++ news) → W.grownBy w' v.ownBlock → Below B W w' → MovedX W v v' → (∀ g cap, v = .slice (some ⟨g, 0, none⟩) n cap → n + m ≤ cap → v' = .slice (some ⟨g, 0, none⟩) (n + m) cap) → K (a.put o.dst v') w') : o.wp Tryz.prog a W K Q := by
  obtain ⟨v', w', hrun, h2, h3, h4, h5, h6⟩ := run_appG W B o.type v n L A m c news hown hl hA hnews h1 hB hn
  unfold Oper.wp execOp
  simp only [ho, resolve, invoke, builtin, Sem.run_bind, Sem.run_pure, Result.andThen_ok, List.map_toArray, List.map_cons, List.map_nil, hs, hx, hrun]
  exact h v' w' h2 h3 h4 h5 h6
theorem wpList_appG {ops : Array Oper} {rest : List Oper} {o : Oper} {a : Act} {W : World} {Q : Exit → Act → World → Prop} (hgd : o.guard = none) (s x : Operand)
    (ho : o.op = .call { callee := .builtin .append, args := #[s, x], argTypes := #[176, 176] })
    (B : Nat) (v : Value) (n : Nat) (L : List Value) (A : Option Addr) (m c : Nat) (news : List Value) (hs : a.eval s = v) (hx : a.eval x = .slice A m c) (hown : OwnG W B v n L) (hl : news.length = m * 1)
    (hA : A = none → m = 0) (hnews : ∀ a, A = some a → ∀ j u, news[j]? = some u → W.cell? (a.add j) = some u) (h1 : ∀ u ∈ news, u.oneCell' = true) (hB : B ≤ W.heap.size) (hn : n + m ≤ 1000000000000)
    (h : ∀ v' w', OwnG w' B v' (n + m) (L ++ news) → W.grownBy w' v.ownBlock → Below B W w' → MovedX W v v' → (∀ g cap, v = .slice (some ⟨g, 0, none⟩) n cap → n + m ≤ cap → v' = .slice (some ⟨g, 0, none⟩) (n + m) cap) → wpList Tryz.prog ops Q rest (a.put o.dst v') w') : wpList Tryz.prog ops Q (o :: rest) a W :=
  wpList_plain hgd fun _ hK => wp_appG s x ho B v n L A m c news hs hx hown hl hA hnews h1 hB hn fun v' w' h2 h3 h4 h5 h6 => hK _ _ (h v' w' h2 h3 h4 h5 h6)
theorem Tryz.infoSk : (Tryz.prog.info? 162).map (fun i => (i.zero, i.size, i.bytes)) = some (some (.agg #[.slice none 0 0]), 1, 24) := by kernel_rfl
/-- a row of the call's own -/
abbrev OwnS (w : World) (B : Nat) (v : Value) (n : Nat) (L : List Value) : Prop := w.ownsRow B 162 1 v n L
set_option maxRecDepth 100000 in
theorem run_appS (W : World) (B : Nat) (ty : TypeId) (v : Value) (n : Nat) (L : List Value) (A : Option Addr) (m c : Nat) (news : List Value) (hown : OwnS W B v n L) (hl : news.length = m * 1)
    (hA : A = none → m = 0) (hnews : ∀ a, A = some a → ∀ j u, news[j]? = some u → W.cell? (a.add j) = some u) (h1 : ∀ u ∈ news, u.oneCell' = true) (hB : B ≤ W.heap.size) (hn : n + m ≤ 1000000000000) :
    ∃ v' w', (Builtin.append_ #[185, 185] ty #[v, .slice A m c]).run Tryz.prog W = .ok v' w' ∧ OwnS w' B v' (n + m) (L ++ news) ∧ W.grownBy w' v.ownBlock ∧ Below B W w' ∧ MovedX W v v' ∧
      (∀ g cap, v = .slice (some ⟨g, 0, none⟩) n cap → n + m ≤ cap → v' = .slice (some ⟨g, 0, none⟩) (n + m) cap) := by
  obtain ⟨i0, hi, hz0, hz1, hz2⟩ := info_parts Tryz.infoSk
  cases A with
  | none =>
    have hm := hA rfl
    subst hm
    have hnil : news = [] := List.eq_nil_of_length_eq_zero (by omega)
    subst hnil
    refine ⟨v, W, run_app_nil W B _ ty _ i0 1 Tryz.underlying185 hi v _ _ hown c, by simpa using hown, World.grownBy.refl W _, Below.refl _ _, Or.inl rfl, fun g cap e _ => by simpa using e⟩
  | some ad =>
    have hnews' := hnews ad rfl
    obtain ⟨v', w', hrun, h2, h3, _⟩ := run_append_own (P := Tryz.prog) W B 185 ty 162 i0 (.agg #[.slice none 0 0]) 1 24 Tryz.underlying185 hi hz0 hz1 hz2 rfl (by decide) v _ _ hown ad m c news hl hnews' h1 (by unfold maxLen; omega) (by omega) hB
    have hroom : ∀ g cap, v = .slice (some ⟨g, 0, none⟩) n cap → n + m ≤ cap → v' = .slice (some ⟨g, 0, none⟩) (n + m) cap := by
      intro g cap hv hr
      rcases hown.2 with ⟨e, _⟩ | ⟨g', cap', cur, e, hb, hg, hnc, hcm, hcs, htake⟩
      · rw [hv] at e; cases e
      · rw [hv] at e
        injection e with e1 e2 e3
        injection e1 with e1
        injection e1 with e1
        subst e1 e3
        subst hv
        have hcl : ∀ j, j < news.length → n * 1 + j < cur.size := by intro j hj; omega
        have hrun2 := run_append_room_cells (P := Tryz.prog) W 185 ty 162 i0 Tryz.underlying185 hi g 0 n cap ad m c news (by rw [hz1]; exact hl) hnews' h1 hr
          (by intro j hj
              rw [hz1, cell_of_row W g _ cur 162 (0, 0) hg, Nat.zero_add, Array.getElem?_eq_getElem (hcl j hj)]; rfl) (by intro j _; simp [World.frozen?, hg])
        rw [hrun2] at hrun
        exact ((Result.ok.injEq _ _ _ _ ▸ hrun).1).symm
    refine ⟨v', w', hrun, h2, h3, (Below.refl _ _).grown h3 hB fun k hk => (hown.lt k hk).1, ?_, hroom⟩
    rcases hown.2 with ⟨e, h0⟩ | ⟨g, cap, cur, e, hb, hg, hnc, hcm, hcs, htake⟩
    · right
      have hx0 : L = [] := List.eq_nil_of_length_eq_zero (by rw [hown.1, h0])
      subst e h0 hx0
      obtain ⟨v2, w2, hrun2, h22, _, _⟩ := run_append_own (P := Tryz.prog) W W.heap.size 185 ty 162 i0 (.agg #[.slice none 0 0]) 1 24 Tryz.underlying185 hi hz0 hz1 hz2 rfl (by decide) (.slice none 0 0) 0 [] ⟨rfl, Or.inl ⟨rfl, rfl⟩⟩ ad m c news hl hnews' h1 (by unfold maxLen; omega) (by omega) (Nat.le_refl _)
      rw [hrun2] at hrun
      injection hrun with e1 e2
      subst e1 e2
      exact fun g hg => (h22.lt g hg).1
    · by_cases hr : n + m ≤ cap
      · left
        rw [hroom g cap e hr, e]; rfl
      · right
        subst e
        obtain ⟨v2, w2, hrun2, hown2, _⟩ := run_append_arg_grows (P := Tryz.prog) W 185 ty 162 i0 (.agg #[.slice none 0 0]) 1 24 Tryz.underlying185 hi hz0 hz1 hz2 rfl (by decide) ⟨g, 0, none⟩ n cap L hown.1
          (fun j u hj => hown.cells (g := g) rfl j u hj) ad m c news hl hnews' (by omega) (by unfold maxLen; omega) (by omega)
        rw [hrun2] at hrun
        injection hrun with e1 e2
        subst e1 e2
        exact fun q hq => (hown2.lt q hq).1
theorem wp_appS {o : Oper} {a : Act} {W : World} {K : Act → World → Prop} {Q : Exit → Act → World → Prop} (s x : Operand)
    (ho : o.op = .call { callee := .builtin .append, args := #[s, x], argTypes := #[185, 185] })
    (B : Nat) (v : Value) (n : Nat) (L : List Value) (A : Option Addr) (m c : Nat) (news : List Value) (hs : a.eval s = v) (hx : a.eval x = .slice A m c) (hown : OwnS W B v n L) (hl : news.length = m * 1)
    (hA : A = none → m = 0) (hnews : ∀ a, A = some a → ∀ j u, news[j]? = some u → W.cell? (a.add j) = some u) (h1 : ∀ u ∈ news, u.oneCell' = true) (hB : B ≤ W.heap.size) (hn : n + m ≤ 1000000000000)
    (h : ∀ v' w', OwnS w' B v' (n + m) (L ++ news) → W.grownBy w' v.ownBlock → Below B W w' → MovedX W v v' → (∀ g cap, v = .slice (some ⟨g, 0, none⟩) n cap → n + m ≤ cap → v' = .slice (some ⟨g, 0, none⟩) (n + m) cap) → K (a.put o.dst v') w') : o.wp Tryz.prog a W K Q := by
  obtain ⟨v', w', hrun, h2, h3, h4, h5, h6⟩ := run_appS W B o.type v n L A m c news hown hl hA hnews h1 hB hn
  unfold Oper.wp execOp
  simp only [ho, resolve, invoke, builtin, Sem.run_bind, Sem.run_pure, Result.andThen_ok, List.map_toArray, List.map_cons, List.map_nil, hs, hx, hrun]
  exact h v' w' h2 h3 h4 h5 h6
theorem step_appS {ops : Array Oper} {o : Oper} {a : Act} {W : World} {K : Act → World → Prop} {Q : Exit → Act → World → Prop} {E : Prop} (hgd : o.guard = none) (s x : Operand)
    (ho : o.op = .call { callee := .builtin .append, args := #[s, x], argTypes := #[185, 185] })
    (B : Nat) (v : Value) (n : Nat) (L : List Value) (A : Option Addr) (m c : Nat) (news : List Value) (hs : a.eval s = v) (hx : a.eval x = .slice A m c) (hown : OwnS W B v n L) (hl : news.length = m * 1)
    (hA : A = none → m = 0) (hnews : ∀ a, A = some a → ∀ j u, news[j]? = some u → W.cell? (a.add j) = some u) (h1 : ∀ u ∈ news, u.oneCell' = true) (hB : B ≤ W.heap.size) (hn : n + m ≤ 1000000000000)
    (h : ∀ v' w', OwnS w' B v' (n + m) (L ++ news) → W.grownBy w' v.ownBlock → Below B W w' → MovedX W v v' → (∀ g cap, v = .slice (some ⟨g, 0, none⟩) n cap → n + m ≤ cap → v' = .slice (some ⟨g, 0, none⟩) (n + m) cap) → K (a.put o.dst v') w') :
    if Region.wanted o (yielded ops a.tmps) = true then Oper.wp Tryz.prog o a W K Q else E := by
  have hw : Region.wanted o (yielded ops a.tmps) = true := by simp [Region.wanted, hgd]
  rw [if_pos hw]
  exact wp_appS s x ho B v n L A m c news hs hx hown hl hA hnews h1 hB hn h
theorem wpList_appS {ops : Array Oper} {rest : List Oper} {o : Oper} {a : Act} {W : World} {Q : Exit → Act → World → Prop} (hgd : o.guard = none) (s x : Operand)
    (ho : o.op = .call { callee := .builtin .append, args := #[s, x], argTypes := #[185, 185] })
    (B : Nat) (v : Value) (n : Nat) (L : List Value) (A : Option Addr) (m c : Nat) (news : List Value) (hs : a.eval s = v) (hx : a.eval x = .slice A m c) (hown : OwnS W B v n L) (hl : news.length = m * 1)
    (hA : A = none → m = 0) (hnews : ∀ a, A = some a → ∀ j u, news[j]? = some u → W.cell? (a.add j) = some u) (h1 : ∀ u ∈ news, u.oneCell' = true) (hB : B ≤ W.heap.size) (hn : n + m ≤ 1000000000000)
    (h : ∀ v' w', OwnS w' B v' (n + m) (L ++ news) → W.grownBy w' v.ownBlock → Below B W w' → MovedX W v v' → (∀ g cap, v = .slice (some ⟨g, 0, none⟩) n cap → n + m ≤ cap → v' = .slice (some ⟨g, 0, none⟩) (n + m) cap) → wpList Tryz.prog ops Q rest (a.put o.dst v') w') : wpList Tryz.prog ops Q (o :: rest) a W :=
  wpList_plain hgd fun _ hK => wp_appS s x ho B v n L A m c news hs hx hown hl hA hnews h1 hB hn fun v' w' h2 h3 h4 h5 h6 => hK _ _ (h v' w' h2 h3 h4 h5 h6)
end Go.Proofs.YtkdlipbegdiaaaaGreatDoor
