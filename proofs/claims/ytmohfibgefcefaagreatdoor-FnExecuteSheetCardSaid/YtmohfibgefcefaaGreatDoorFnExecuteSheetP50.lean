/- Slices of texts in memory: a slice that reads as a list of texts, a row of the call's own, append to it. No condition but sizes. The columns of a folded sheet as a text, and the desk's command of it. No condition but sizes. The desk's command of a word. No condition but sizes. -/
import Derived.Test.YtmohfibgefcefaaGreatDoorApp
import Derived.Test.YtmohfibgefcefaaGreatDoorBytes
import Derived.Sort.EncStr
import Derived.Test.YtmohfibgefcefaaGreatDoorStkH
import Derived.Test.YtmohfibgefcefaaGreatDoorFnExecuteSheetP49
import Derived.Lib.Join
import Derived.Test.YtmohfibgefcefaaGreatDoorFnExecuteSheetP48
namespace Go.Proofs.YtmohfibgefcefaaGreatDoor
open Go.RowKit

theorem Tryz.infoStrE : (Tryz.prog.info? 9).map (fun i => (i.zero, i.size, i.bytes)) = some (some (.string ByteArray.empty), 1, 16) := by kernel_rfl
/-- the cells of a slice of texts, where there are any -/
def Strs (w : World) (A : Option Addr) (xs : List (List UInt8)) : Prop :=
  xs ≠ [] → ∃ b off, A = some ⟨b, off, none⟩ ∧ b < w.heap.size ∧ ∀ k x, xs[k]? = some x → w.cell? ⟨b, off + k, none⟩ = some (encStr x)
theorem strsE_oneCell (ys : List (List UInt8)) : ∀ u ∈ ys.map encStr, u.oneCell' = true := by
  intro u hu
  obtain ⟨x, _, rfl⟩ := List.mem_map.1 hu
  rfl
theorem Strs.at_ {w : World} {A : Option Addr} {xs : List (List UInt8)} {k : Nat} (h : Strs w A xs) (hk : k < xs.length) :
    ∃ b off x, A = some ⟨b, off, none⟩ ∧ b < w.heap.size ∧ Hid (xs.drop k = x :: xs.drop (k + 1)) ∧ w.cell? ⟨b, off + k, none⟩ = some (encStr x) ∧ x ∈ xs := by
  obtain ⟨b, off, e, hb, hc⟩ := h (by intro e; subst e; simp at hk)
  exact ⟨b, off, xs[k], e, hb, List.drop_eq_getElem_cons hk, hc k _ (List.getElem?_eq_getElem hk), List.getElem_mem hk⟩
theorem Strs.nil (w : World) (A : Option Addr) : Strs w A [] := fun h => absurd rfl h
theorem Strs.keep {w w' : World} {A : Option Addr} {xs : List (List UInt8)} (h : Strs w A xs) (hs : w.heap.size ≤ w'.heap.size) (hk : ∀ p : Addr, p.block < w.heap.size → w'.cell? p = w.cell? p) : Strs w' A xs := by
  intro hn
  obtain ⟨b, off, e, hb, hc⟩ := h hn
  exact ⟨b, off, e, Nat.lt_of_lt_of_le hb hs, fun k x hx => (hk ⟨b, off + k, none⟩ hb).trans (hc k x hx)⟩
theorem Strs.below {w w' : World} {A : Option Addr} {xs : List (List UInt8)} (h : Strs w A xs) (hb : Below w.heap.size w w') : Strs w' A xs :=
  h.keep hb.size fun _ hp => hb.cell hp
theorem Strs.drew {w : World} {A : Option Addr} {xs : List (List UInt8)} (h : Strs w A xs) : Strs w.drew A xs := h
theorem Strs.alloc {w : World} {A : Option Addr} {xs : List (List UInt8)} (h : Strs w A xs) (o : Obj) : Strs (w.alloc o) A xs :=
  h.below ((Below.refl _ _).alloc (Nat.le_refl _) o)
theorem Strs.of_own {w : World} {base : Nat} {e : TypeId} {A : Option Addr} {n c : Nat} {xs : List (List UInt8)} (h : w.ownsRow base e 1 (.slice A n c) n (xs.map (encStr))) : Strs w A xs := by
  intro hn
  have hlen := h.1
  rcases h.2 with ⟨_, h0⟩ | ⟨g, cap, cur, hv, hb, hg, hnc, _, _, htake⟩
  · exfalso; apply hn; apply List.eq_nil_of_length_eq_zero; simpa [h0] using hlen
  · injection hv with hA
    subst hA
    refine ⟨g, 0, rfl, (Array.getElem?_eq_some_iff.1 hg).1, fun k x hx => ?_⟩
    have := h.cells (g := g) rfl k (encStr x) (by rw [List.getElem?_map, hx]; rfl)
    rw [← this]
    congr 1
    unfold Addr.add
    split
    · next h0 => subst h0; simp
    · simp

/-- the integers xs, in a row that the call itself made, from block B on -/
abbrev OwnTx (w : World) (B : Nat) (v : Value) (xs : List (List UInt8)) : Prop := w.ownsRow B 9 1 v xs.length (xs.map (encStr))

theorem OwnTx.form {w : World} {B : Nat} {v : Value} {xs : List (List UInt8)} (h : OwnTx w B v xs) : ∃ A c, v = .slice A xs.length c ∧ Strs w A xs ∧ xs.length ≤ c ∧ c ≤ maxLen := by
  rcases h.2 with ⟨rfl, h0⟩ | ⟨g, cap, cur, rfl, hb, hg, hnc, hcm, _, _⟩
  · exact ⟨none, 0, by rw [h0], by rw [List.eq_nil_of_length_eq_zero h0]; exact Strs.nil _ _, by omega, by simp [maxLen]⟩
  · exact ⟨_, cap, rfl, Strs.of_own h, hnc, hcm⟩

/-- an empty row, just laid -/
theorem ownTx_empty (w : World) {B : Nat} (hB : B ≤ w.heap.size) : OwnTx (w.alloc (.cells #[] 9)) B (.slice (some ⟨w.heap.size, 0, none⟩) 0 0) [] :=
  World.ownsRow_lit w #[] 0 hB (by unfold maxLen; omega) rfl

theorem run_appTx (W : World) (B : Nat) (ty : TypeId) (v : Value) (xs ys : List (List UInt8)) (A : Option Addr) (c : Nat) (hown : OwnTx W B v xs) (hr : Strs W A ys) (hB : B ≤ W.heap.size)
    (hn : xs.length + ys.length ≤ 1000000000000) :
    ∃ v' w', (Builtin.append_ #[69, 69] ty #[v, .slice A ys.length c]).run Tryz.prog W = .ok v' w' ∧ OwnTx w' B v' (xs ++ ys) ∧ W.grownBy w' v.ownBlock ∧ Below B W w' := by
  obtain ⟨i0, hi, hz0, hz1, hz2⟩ := info_parts Tryz.infoStrE
  cases A with
  | none =>
    have hy : ys = [] := by
      apply Classical.byContradiction
      intro hne
      obtain ⟨b, off, e, _⟩ := hr hne
      cases e
    subst hy
    exact ⟨v, W, run_app_nil W B _ ty _ i0 1 Tryz.underlying69 hi v _ _ hown c, by simpa using hown, World.grownBy.refl W _, Below.refl _ _⟩
  | some ad =>
    obtain ⟨v', w', hrun, h2, h3, _⟩ := run_append_own (P := Tryz.prog) W B 69 ty 9 i0 (.string ByteArray.empty) 1 16 Tryz.underlying69 hi hz0 hz1 hz2 rfl (by decide) v _ _ hown ad ys.length c (ys.map (encStr))
      (by simp) (by
        intro j u hu
        have hne : ys ≠ [] := by intro e; subst e; simp at hu
        obtain ⟨b, off, e, _, hc⟩ := hr hne
        have e2 : ad = ⟨b, off, none⟩ := Option.some.inj e
        rw [List.getElem?_map] at hu
        cases hy : ys[j]? with
        | none => simp only [hy, Option.map_none, reduceCtorEq] at hu
        | some y =>
          simp only [hy, Option.map_some, Option.some.injEq] at hu
          rw [← hu, e2, Addr.add_lit]
          exact hc j y hy) (strsE_oneCell _) (by unfold maxLen; omega) (by omega) hB
    exact ⟨v', w', hrun, by simpa [OwnTx] using h2, h3, (Below.refl _ _).grown h3 hB fun k hk => (hown.lt k hk).1⟩

theorem wp_appTx {o : Oper} {a : Act} {W : World} {K : Act → World → Prop} {Q : Exit → Act → World → Prop} (s x : Operand)
    (ho : o.op = .call { callee := .builtin .append, args := #[s, x], argTypes := #[69, 69] })
    (B : Nat) (v : Value) (xs ys : List (List UInt8)) (A : Option Addr) (c : Nat) (hs : a.eval s = v) (m : Nat) (hm : ys.length = m) (hx : a.eval x = .slice A m c) (hown : OwnTx W B v xs) (hr : Strs W A ys) (hB : B ≤ W.heap.size)
    (hn : xs.length + ys.length ≤ 1000000000000)
    (h : ∀ v' w', OwnTx w' B v' (xs ++ ys) → W.grownBy w' v.ownBlock → Below B W w' → K (a.put o.dst v') w') : o.wp Tryz.prog a W K Q := by
  subst hm
  obtain ⟨v', w', hrun, h2, h3, h4⟩ := run_appTx W B o.type v xs ys A c hown hr hB hn
  unfold Oper.wp execOp
  simp only [ho, resolve, invoke, builtin, Sem.run_bind, Sem.run_pure, Result.andThen_ok, List.map_toArray, List.map_cons, List.map_nil, hs, hx, hrun]
  exact h v' w' h2 h3 h4

theorem wpList_appTx {ops : Array Oper} {rest : List Oper} {o : Oper} {a : Act} {W : World} {Q : Exit → Act → World → Prop} (hgd : o.guard = none) (s x : Operand)
    (ho : o.op = .call { callee := .builtin .append, args := #[s, x], argTypes := #[69, 69] })
    (B : Nat) (v : Value) (xs ys : List (List UInt8)) (A : Option Addr) (c : Nat) (hs : a.eval s = v) (m : Nat) (hm : ys.length = m) (hx : a.eval x = .slice A m c) (hown : OwnTx W B v xs) (hr : Strs W A ys) (hB : B ≤ W.heap.size)
    (hn : xs.length + ys.length ≤ 1000000000000)
    (h : ∀ v' w', OwnTx w' B v' (xs ++ ys) → W.grownBy w' v.ownBlock → Below B W w' → wpList Tryz.prog ops Q rest (a.put o.dst v') w') : wpList Tryz.prog ops Q (o :: rest) a W :=
  wpList_plain hgd fun _ hK => wp_appTx s x ho B v xs ys A c hs m hm hx hown hr hB hn fun v' w' h2 h3 h4 => hK _ _ (h v' w' h2 h3 h4)

theorem step_appTx {ops : Array Oper} {o : Oper} {a : Act} {W : World} {K : Act → World → Prop} {Q : Exit → Act → World → Prop} {E : Prop} (hgd : o.guard = none) (s x : Operand)
    (ho : o.op = .call { callee := .builtin .append, args := #[s, x], argTypes := #[69, 69] })
    (B : Nat) (v : Value) (xs ys : List (List UInt8)) (A : Option Addr) (c : Nat) (hs : a.eval s = v) (m : Nat) (hm : ys.length = m) (hx : a.eval x = .slice A m c) (hown : OwnTx W B v xs) (hr : Strs W A ys) (hB : B ≤ W.heap.size)
    (hn : xs.length + ys.length ≤ 1000000000000)
    (h : ∀ v' w', OwnTx w' B v' (xs ++ ys) → W.grownBy w' v.ownBlock → Below B W w' → K (a.put o.dst v') w') :
    if Region.wanted o (yielded ops a.tmps) = true then Oper.wp Tryz.prog o a W K Q else E := by
  have hw : Region.wanted o (yielded ops a.tmps) = true := by simp [Region.wanted, hgd]
  rw [if_pos hw]
  exact wp_appTx s x ho B v xs ys A c hs m hm hx hown hr hB hn h

theorem own_belowTx {w w' : World} {B : Nat} {v : Value} {xs : List (List UInt8)} (h : OwnTx w B v xs) (hb : Below w.heap.size w w') : OwnTx w' B v xs :=
  World.ownsRow.kept (row := none) h ⟨hb.os, hb.tape, hb.output, hb.size, fun i hi _ => hb.block i hi⟩ (by cases hv : v.ownBlock <;> simp)
theorem own_lowTx {w : World} {B B' : Nat} {e : TypeId} {z n : Nat} {v : Value} {xs : List Value} (h : w.ownsRow B e z v n xs) (hB : ∀ g, v.ownBlock = some g → B' ≤ g) : w.ownsRow B' e z v n xs := by
  rcases h with ⟨h1, h2⟩
  refine ⟨h1, ?_⟩
  rcases h2 with h2 | ⟨g, cap, cur, e1, hb, rest⟩
  · exact Or.inl h2
  · exact Or.inr ⟨g, cap, cur, e1, hB g (by rw [e1]; rfl), rest⟩
theorem ownTx_addr {w : World} {B : Nat} {A : Option Addr} {c : Nat} {xs : List (List UInt8)} (h : OwnTx w B (.slice A xs.length c) xs) (h1 : 1 ≤ xs.length) : ∃ g, A = some ⟨g, 0, none⟩ := by
  rcases h.2 with ⟨_, h0⟩ | ⟨g, cap, cur, e, _⟩
  · omega
  · cases e; exact ⟨g, rfl⟩
theorem wpList_pushTx {ops : Array Oper} {rest : List Oper} {o : Oper} {a : Act} {Q : Exit → Act → World → Prop} {W : World} (hgd : o.guard = none) (s x : Operand)
    (ho : o.op = .call { callee := .builtin .append, args := #[s, x], argTypes := #[69, 69] })
    (B : Nat) (v : Value) (xs : List (List UInt8)) (z : List UInt8) (hs : a.eval s = v) (hx : a.eval x = .slice (some ⟨W.heap.size, 0, none⟩) 1 1) (hown : OwnTx W B v xs) (hB : B ≤ W.heap.size) (hn : xs.length ≤ 1000000000000)
    (h : ∀ v' w', OwnTx w' B v' (xs ++ [z]) → W.grownBy w' v.ownBlock → Below B W w' → wpList Tryz.prog ops Q rest (a.put o.dst v') w') :
    wpList Tryz.prog ops Q (o :: rest) a (W.alloc (.cells #[encStr z] 9)) := by
  obtain ⟨i0, hi, hz0, hz1, hz2⟩ := info_parts Tryz.infoStrE
  refine wpList_append_own _ hgd s x 69 ho B 9 i0 (.string ByteArray.empty) 1 16 Tryz.underlying69 hi hz0 hz1 hz2 rfl (by decide) v _ _ hs (hown.alloc _) ⟨W.heap.size, 0, none⟩ 1 1 [encStr z] hx rfl ?_ ?_ ?_ ?_ ?_ ?_
  · intro j u hj
    match j, hj with
    | 0, hj => simp at hj; subst hj; simp [Addr.add]
  · intro u hu; simp at hu; subst hu; rfl
  · unfold maxLen; omega
  · omega
  · simp; omega
  · intro v' w' ho' hg _
    have hg' : W.grownBy w' v.ownBlock := ⟨hg.os, hg.tape, hg.output, Nat.le_trans (by simp) hg.size, fun k hk hne => (hg.block k (by simp; omega) hne).trans (Below.heap_alloc W _ k hk)⟩
    refine h v' w' (by simpa [OwnTx] using ho') hg' ((Below.refl _ _).grown hg' hB fun k hk => (hown.lt k hk).1)
end Go.Proofs.YtmohfibgefcefaaGreatDoor
namespace Go.Proofs.YtmohfibgefcefaaGreatDoor
open Go.RowKit

theorem mem_shAt {S : Sh} {i j : Nat} {q : Cl} (h : q ∈ shAt S i j) : ∃ x ∈ S.2.2, q ∈ x := by
  unfold shAt at h
  cases hx : S.2.2[i * S.2.1 + j]? with
  | none => rw [hx] at h; simp at h
  | some x => rw [hx] at h; exact ⟨x, List.mem_of_getElem? hx, h⟩
theorem mem_putS {a b : List Cl} {high under : Bool} {q : Cl} (h : q ∈ putS a b high under) : q ∈ a ∨ ∃ p ∈ b, q.2.1 = p.2.1 := by
  unfold putS at h
  split at h
  · rcases List.mem_append.1 h with h | h
    · obtain ⟨p, hp, rfl⟩ := List.mem_map.1 h
      exact Or.inr ⟨p, List.mem_reverse.1 hp, rfl⟩
    · exact Or.inl h
  · rcases List.mem_append.1 h with h | h
    · exact Or.inl h
    · obtain ⟨p, hp, rfl⟩ := List.mem_map.1 h
      exact Or.inr ⟨p, List.mem_reverse.1 hp, rfl⟩
def ColsB (S : Sh) (C : Nat) : Prop := ∀ x ∈ S.2.2, ∀ q ∈ x, q.2.1 < C
theorem ColsB.put {S : Sh} {C : Nat} (h : ColsB S C) {i j i' j' : Nat} {high under : Bool} {q : Cl} (hq : q ∈ putS (shAt S i j) (shAt S i' j') high under) : q.2.1 < C := by
  rcases mem_putS hq with h1 | ⟨p, hp, e⟩
  · obtain ⟨x, hx, h2⟩ := mem_shAt h1
    exact h x hx q h2
  · obtain ⟨x, hx, h2⟩ := mem_shAt hp
    rw [e]; exact h x hx p h2
theorem ColsB.fold {S : Sh} {C : Nat} (h : ColsB S C) (c : UInt8) : ColsB (foldC S c) C := by
  intro x hx q hq
  unfold foldC at hx
  split at hx
  · unfold foldH at hx
    obtain ⟨i, _, hx⟩ := List.mem_flatMap.1 hx
    obtain ⟨j, _, rfl⟩ := List.mem_map.1 hx
    exact h.put hq
  · unfold foldW at hx
    obtain ⟨i, _, hx⟩ := List.mem_flatMap.1 hx
    obtain ⟨j, _, rfl⟩ := List.mem_map.1 hx
    exact h.put hq
theorem ColsB.all {S : Sh} {C : Nat} (h : ColsB S C) (l : List UInt8) : ColsB (foldAll S l) C := by
  induction l generalizing S with
  | nil => exact h
  | cons c r ih => exact ih (h.fold c)
theorem stackT_cols {l : List UInt8} (h5 : l.length ≤ 5) : ∀ q ∈ stackT l, q.2.1 < 100 := by
  intro q hq
  obtain ⟨x, hx, h2⟩ := mem_shAt hq
  have h0 : ColsB (newSh (rowsT l) (colsT l)) (colsT l) := by
    intro x hx q hq
    obtain ⟨i, _, hx⟩ := List.mem_flatMap.1 hx
    obtain ⟨j, hj, rfl⟩ := List.mem_map.1 hx
    rw [List.mem_singleton] at hq
    subst hq
    exact List.mem_range.1 hj
  have := h0.all l x hx q h2
  have h32 : colsT l ≤ 32 := colsT_le h5
  omega
/-- the columns of a stack as texts -/
def colTs (T : List Cl) : List (List UInt8) := T.map fun c => Lib.decDigits c.2.1
/-- and as one text -/
def colsJ (T : List Cl) : List UInt8 := Lib.join (colTs T) [32]
theorem join_len (xs : List (List UInt8)) (m : Nat) (h : ∀ x ∈ xs, x.length ≤ m) : (Lib.join xs [32]).length ≤ xs.length * (m + 1) := by
  have key : ∀ xs : List (List UInt8), (∀ x ∈ xs, x.length ≤ m) → (([32] : List UInt8).intercalate xs).length ≤ xs.length * (m + 1) := by
    intro xs
    induction xs with
    | nil => intro _; simp [List.intercalate]
    | cons x r ih =>
      intro h
      have hx := h x (by simp)
      have hr := ih fun y hy => h y (by simp [hy])
      cases r with
      | nil => simp [List.intercalate]; omega
      | cons y r =>
        rw [List.intercalate_cons_cons] at *
        simp only [List.length_append, List.length_cons, List.length_nil, Nat.succ_mul] at *
        omega
  exact key xs h
theorem colsJ_nil : colsJ [] = [] := rfl
set_option maxHeartbeats 2000000 in
set_option maxRecDepth 100000 in
theorem impl_stack (td b : Nat) (arg : List UInt8) (w : World) (_hb : b < w.heap.size) (hc : w.cell? ⟨b, 1, none⟩ = some (.string (btj arg))) (hv : shB arg = true) :
    Calls Tryz.prog 139 #[.pointer (some ⟨td, 0, none⟩), .slice (some ⟨b, 1, none⟩) 1 1] w fun e w' => e = .returned (.tuple #[.string (btj (colsJ (stackT arg))), .bool true]) ∧ Below w.heap.size w w' := by
  have HSS := Lib.hid (fun W : World => impl_SheetStack (btj arg) W hv)
  obtain ⟨q1, q2⟩ := shB_parts hv
  have hcb := stackT_cols q1
  have hlen5 : (stackT arg).length ≤ 32 := by
    rw [stackT_len q2]; exact pow5 q1
  have hlen1 : 1 ≤ (stackT arg).length := by rw [stackT_len q2]; exact Nat.one_le_two_pow
  have HSS2 : Hid (∀ W : World, Calls Tryz.prog 8 #[.string (btj arg)] W fun e w' => (∃ v, e = .returned (.tuple #[v, .bool true]) ∧ SlC w' v (stackT arg)) ∧ Below W.heap.size W w') := HSS.out
  obtain ⟨T, hT⟩ : ∃ T, T = stackT arg := ⟨_, rfl⟩
  rw [← hT] at HSS2 hcb hlen5 hlen1 ⊢
  have HL1 := Lib.hid hlen1
  have HCB := Lib.hid hcb
  clear hT HSS hcb hv q1 q2 hlen1
  go_enter Tryz.func139, Tryz.ntmps139
  go_wp2_with fail
  refine (HSS2.out w).mono ?_
  rintro e w1 ⟨⟨v1, rfl, hS1⟩, hb1⟩
  have HB1 := Lib.hid hb1
  obtain ⟨A1, c1, rfl, hr1⟩ := sl_len hS1
  have HR1 := Lib.hid hr1
  clear hS1 hb1 hr1
  obtain ⟨i0, hi, hz0, hz1, hz2⟩ := info_parts Tryz.infoStrE
  obtain ⟨w2, hrun, hown2, hg2⟩ := run_make_own (P := Tryz.prog) w1 w1.heap.size 69 9 i0 (.string ByteArray.empty) 1 Tryz.underlying69 hi hz0 hz1 .i64 .i64 T.length (by rw [hz2]; omega) (by unfold maxLen; omega) (Nat.le_refl _)
  have HRun : Hid ((Instr.makeSlice 69 (.int .i64 0) (.int .i64 T.length)).run Tryz.prog w1 = .ok (.slice (some ⟨w1.heap.size, 0, none⟩) 0 T.length) w2) := by
    show _ = _
    have := hrun
    simpa using this
  have hb2 : Below w1.heap.size w1 w2 := (Below.refl _ _).grown hg2 (Nat.le_refl _) (by intro k hk; cases hk)
  have HO2 : Hid (OwnTx w2 w1.heap.size (.slice (some ⟨w1.heap.size, 0, none⟩) 0 T.length) (colTs (T.take 0))) := hown2
  have HB2 := Lib.hid hb2
  clear hi hz0 hz1 hz2 hrun hown2 hg2 hb2
  go_wp2_with fail
  rw [HRun.out]
  clear HRun
  go_wp2_with fail
  go_loopg [8, 10, 23] (T.length + 1) (fun gg s8 s10 s23 wr => ∃ (k : Nat), s10 = s10 ∧ k ≤ T.length ∧ s23 = .int .i64 k ∧ T.length - k < gg ∧ Hid (Below w1.heap.size w1 wr) ∧ Hid (OwnTx wr w1.heap.size s8 (colTs (T.take k))))
  case atStart => exact ⟨0, rfl, Nat.zero_le _, rfl, by omega, HB2, HO2⟩
  case round =>
    clear HB2 HO2
    obtain ⟨k, _, hk, rfl, hg, HB, HO⟩ := hrel
    cases gk with
    | zero => omega
    | succ g1 =>
    by_cases hlt : k < T.length
    · have k1 : (k : Int) < (T.length : Int) := by omega
      have k0 : (0 : Int) ≤ (k : Int) := by omega
      obtain ⟨bb, off, rfl, hbb, e0, e1, e2, e3⟩ := (HR1.out.below HB.out).cl hlt
      obtain ⟨x, hx⟩ : ∃ x, x = T[k] := ⟨_, rfl⟩
      rw [← hx] at e0 e1 e2 e3
      have hx100 : x.2.1 < 100 := by rw [hx]; exact HCB.out _ (List.getElem_mem hlt)
      have HIT := Lib.hid (fun W : World => Tryz.strconv_Itoa_small x.2.1 hx100 W)
      have htk : colTs (T.take (k + 1)) = colTs (T.take k) ++ [Lib.decDigits x.2.1] := by
        rw [List.take_succ_eq_append_getElem hlt, ← hx]; simp [colTs]
      have HTK := Lib.hid htk
      have HTL : Hid ((colTs (T.take k)).length ≤ 32) := by
        show _ ≤ _
        unfold colTs; rw [List.length_map, List.length_take]; omega
      have hz1 := HB.out.size
      clear htk hx
      go_upto_region 6 with (fail)
      obtain ⟨w5, hw5⟩ : ∃ y, y = wr.alloc (.cells #[.int .i64 x.1, .int .i64 x.2.1, .bool x.2.2.1, .bool x.2.2.2] 30) := ⟨_, rfl⟩
      have HKP : Hid (Blk w5 wr.heap.size 30 #[.int .i64 x.1, .int .i64 x.2.1, .bool x.2.2.1, .bool x.2.2.2]) := by show Blk _ _ _ _; rw [hw5]; exact Blk.new wr _ _
      have HB5 : Hid (Below w1.heap.size w1 w5) := by show Below _ _ _; rw [hw5]; exact HB.out.alloc HB.out.size _
      have HO5 : Hid (OwnTx w5 w1.heap.size u8 (colTs (T.take k))) := by show OwnTx _ _ _ _; rw [hw5]; exact own_belowTx HO.out ((Below.refl _ _).alloc (Nat.le_refl _) _)
      rw [← hw5]
      have p1 : w5.cell? ⟨wr.heap.size, 1, none⟩ = some (.int .i64 x.2.1) := HKP.out.cell 1
      have hz5 := HB5.out.size
      clear hw5 HB HO
      go_wp2_with fail
      refine (HIT.out _).mono ?_
      rintro e w6 ⟨rfl, rfl⟩
      go_wp2_with (at_builtin; go_loud (refine wpList_pushTx (W := w6) rfl _ _ rfl w1.heap.size _ (colTs (T.take k)) (Lib.decDigits x.2.1) (by rfl) (by rfl) HO5.out hz5 (by have := HTL.out; omega) ?_))
      intro v7 w7 ho7 hg7 hb7
      rw [← HTK.out] at ho7
      have HO7 := Lib.hid ho7
      have HB7 := Lib.hid (HB5.out.trans hb7)
      clear ho7 hg7 hb7
      go_wp2_with fail
      go_roundg g1
      case measure => omega
      case rel => exact ⟨k + 1, trivial, by omega, by go_num, by omega, HB7, HO7⟩
    · obtain rfl : k = T.length := by omega
      have hO := HO.out
      rw [List.take_of_length_le (Nat.le_refl _)] at hO
      have hl1 : (colTs T).length = T.length := by simp [colTs]
      obtain ⟨A8, c8, rfl, hS8, hc8, _⟩ := hO.form
      obtain ⟨g8, rfl⟩ := ownTx_addr hO (by rw [hl1]; exact HL1.out)
      obtain ⟨b8, o8, e8, hb8, hc8'⟩ := hS8 (by intro e; rw [e] at hl1; have := HL1.out; simp at hl1; omega)
      cases e8
      have hjl : (Lib.join (colTs T) [32]).length ≤ 1000 := by
        have := join_len (colTs T) 2 (by
          intro y hy
          obtain ⟨c, hc, rfl⟩ := List.mem_map.1 hy
          have h100 := HCB.out c hc
          by_cases h10 : c.2.1 < 10
          · rw [Lib.decDigits_one h10]; simp
          · rw [Lib.decDigits_two h10 h100]; simp)
        rw [hl1] at this
        omega
      have hmm : ((colTs T).map btj).map (·.data.toList) = colTs T := by rw [List.map_map]; exact List.map_id' _
      have HJ := Lib.hid (Tryz.strings_Join g8 0 c8 ((colTs T).map btj) (btj [32]) wr (by
        intro j y hy
        rw [List.getElem?_map] at hy
        cases hz : (colTs T)[j]? with
        | none => rw [hz] at hy; cases hy
        | some z =>
          rw [hz] at hy
          cases hy
          exact hc8' j z hz) hb8 (by rw [List.length_map, hl1]; omega) (by rw [List.length_map]; exact hc8) (by rw [hmm]; show (Lib.join (colTs T) [32]).length ≤ _; omega))
      rw [hmm, List.length_map] at HJ
      have HB9 := HB
      clear hO hS8 hc8 hb8 hc8' hjl hmm hl1 HO HB
      go_wp2_with fail
      refine HJ.out.mono ?_
      rintro e w9 ⟨rfl, hb9⟩
      have HBE := Lib.hid ((HB1.out.trans (HB9.out.mono HB1.out.size)).trans (hb9.mono (Nat.le_trans HB1.out.size HB9.out.size)))
      clear hb9
      go_wp2_with fail
      go_ret2
      exact ⟨rfl, HBE.out⟩
end Go.Proofs.YtmohfibgefcefaaGreatDoor
namespace Go.Proofs.YtmohfibgefcefaaGreatDoor
open Go.RowKit

set_option maxHeartbeats 2000000 in
set_option maxRecDepth 100000 in
theorem impl_word (td b : Nat) (arg : List UInt8) (w : World) (hc : w.cell? ⟨b, 1, none⟩ = some (.string (btj arg))) (hl : arg.length ≤ 1000) :
    Calls Tryz.prog 140 #[.pointer (some ⟨td, 0, none⟩), .slice (some ⟨b, 1, none⟩) 1 1] w fun e w' => e = .returned (.tuple #[.string (btj ((wofO arg).getD [])), .bool (wofO arg).isSome]) ∧ Below w.heap.size w w' := by
  have HW := Lib.hid (impl_WordOf (btj arg) w (by show arg.toArray.size ≤ 1000; simpa using hl))
  have HW2 : Hid (Calls Tryz.prog 12 #[.string (btj arg)] w fun e w' => e = .returned (.tuple #[.string (btj ((wofO arg).getD [])), .bool (wofO arg).isSome]) ∧ Below w.heap.size w w') := HW.out
  clear HW
  go_enter Tryz.func140, Tryz.ntmps140
  go_wp2_with fail
  refine HW2.out.mono ?_
  rintro e w1 ⟨rfl, hb1⟩
  have HB1 := Lib.hid hb1
  clear hb1
  go_wp2_with fail
  go_ret2
  exact ⟨rfl, HB1.out⟩
end Go.Proofs.YtmohfibgefcefaaGreatDoor
