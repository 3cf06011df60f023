/- Slices of texts in memory: a slice that reads as a list of texts, a row of the call's own, append to it. No condition but sizes. -/
import Derived.Test.YtmohfibgefcefaaGreatDoorApp
import Derived.Test.YtmohfibgefcefaaGreatDoorBytes
import Derived.Sort.EncStr
namespace Go.Proofs.YtmohfibgefcefaaGreatDoor
open Go.RowKit

theorem Tryz.infoStrE : (Tryz.prog.info? 9).map (fun i => (i.zero, i.size, i.bytes)) = some (some (.string ByteArray.empty), 1, 16) := by kernel_rfl
/-- the cells of a slice of texts, where there are any -/
def Strs (w : World) (A : Option Addr) (xs : List (List UInt8)) : Prop :=
  xs ≠ [] → ∃ b off, A = some ⟨b, off, none⟩ ∧ b < w.heap.size ∧ ∀ k x, xs[k]? = some x → w.cell? ⟨b, off + k, none⟩ = some (encStr x)
theorem strsE_oneCell (ys : List (List UInt8)) : ∀ u ∈ ys.map encStr, u.oneCell' = true := by
  intro u hu
  obtain ⟨x, _, rfl⟩ := List.mem_map.1 hu
  rfl
theorem Strs.at_ {w : World} {A : Option Addr} {xs : List (List UInt8)} {k : Nat} (h : Strs w A xs) (hk : k < xs.length) :
    ∃ b off x, A = some ⟨b, off, none⟩ ∧ b < w.heap.size ∧ Hid (xs.drop k = x :: xs.drop (k + 1)) ∧ w.cell? ⟨b, off + k, none⟩ = some (encStr x) ∧ x ∈ xs := by
  obtain ⟨b, off, e, hb, hc⟩ := h (by intro e; subst e; simp at hk)
  exact ⟨b, off, xs[k], e, hb, List.drop_eq_getElem_cons hk, hc k _ (List.getElem?_eq_getElem hk), List.getElem_mem hk⟩
theorem Strs.nil (w : World) (A : Option Addr) : Strs w A [] := fun h => absurd rfl h
theorem Strs.keep {w w' : World} {A : Option Addr} {xs : List (List UInt8)} (h : Strs w A xs) (hs : w.heap.size ≤ w'.heap.size) (hk : ∀ p : Addr, p.block < w.heap.size → w'.cell? p = w.cell? p) : Strs w' A xs := by
  intro hn
  obtain ⟨b, off, e, hb, hc⟩ := h hn
  exact ⟨b, off, e, Nat.lt_of_lt_of_le hb hs, fun k x hx => (hk ⟨b, off + k, none⟩ hb).trans (hc k x hx)⟩
theorem Strs.below {w w' : World} {A : Option Addr} {xs : List (List UInt8)} (h : Strs w A xs) (hb : Below w.heap.size w w') : Strs w' A xs :=
  h.keep hb.size fun _ hp => hb.cell hp
theorem Strs.drew {w : World} {A : Option Addr} {xs : List (List UInt8)} (h : Strs w A xs) : Strs w.drew A xs := h
theorem Strs.alloc {w : World} {A : Option Addr} {xs : List (List UInt8)} (h : Strs w A xs) (o : Obj) : Strs (w.alloc o) A xs :=
  h.below ((Below.refl _ _).alloc (Nat.le_refl _) o)
theorem Strs.of_own {w : World} {base : Nat} {e : TypeId} {A : Option Addr} {n c : Nat} {xs : List (List UInt8)} (h : w.ownsRow base e 1 (.slice A n c) n (xs.map (encStr))) : Strs w A xs := by
  intro hn
  have hlen := h.1
  rcases h.2 with ⟨_, h0⟩ | ⟨g, cap, cur, hv, hb, hg, hnc, _, _, htake⟩
  · exfalso; apply hn; apply List.eq_nil_of_length_eq_zero; simpa [h0] using hlen
  · injection hv with hA
    subst hA
    refine ⟨g, 0, rfl, (Array.getElem?_eq_some_iff.1 hg).1, fun k x hx => ?_⟩
    have := h.cells (g := g) rfl k (encStr x) (by rw [List.getElem?_map, hx]; rfl)
    rw [← this]
    congr 1
    unfold Addr.add
    split
    · next h0 => subst h0; simp
    · simp

/-- the integers xs, in a row that the call itself made, from block B on -/
abbrev OwnTx (w : World) (B : Nat) (v : Value) (xs : List (List UInt8)) : Prop := w.ownsRow B 9 1 v xs.length (xs.map (encStr))

theorem OwnTx.form {w : World} {B : Nat} {v : Value} {xs : List (List UInt8)} (h : OwnTx w B v xs) : ∃ A c, v = .slice A xs.length c ∧ Strs w A xs ∧ xs.length ≤ c ∧ c ≤ maxLen := by
  rcases h.2 with ⟨rfl, h0⟩ | ⟨g, cap, cur, rfl, hb, hg, hnc, hcm, _, _⟩
  · exact ⟨none, 0, by rw [h0], by rw [List.eq_nil_of_length_eq_zero h0]; exact Strs.nil _ _, by omega, by simp [maxLen]⟩
  · exact ⟨_, cap, rfl, Strs.of_own h, hnc, hcm⟩

/-- an empty row, just laid -/
theorem ownTx_empty (w : World) {B : Nat} (hB : B ≤ w.heap.size) : OwnTx (w.alloc (.cells #[] 9)) B (.slice (some ⟨w.heap.size, 0, none⟩) 0 0) [] :=
  World.ownsRow_lit w #[] 0 hB (by unfold maxLen; omega) rfl

theorem run_appTx (W : World) (B : Nat) (ty : TypeId) (v : Value) (xs ys : List (List UInt8)) (A : Option Addr) (c : Nat) (hown : OwnTx W B v xs) (hr : Strs W A ys) (hB : B ≤ W.heap.size)
    (hn : xs.length + ys.length ≤ 1000000000000) :
    ∃ v' w', (Builtin.append_ #[69, 69] ty #[v, .slice A ys.length c]).run Tryz.prog W = .ok v' w' ∧ OwnTx w' B v' (xs ++ ys) ∧ W.grownBy w' v.ownBlock ∧ Below B W w' := by
  obtain ⟨i0, hi, hz0, hz1, hz2⟩ := info_parts Tryz.infoStrE
  cases A with
  | none =>
    have hy : ys = [] := by
      apply Classical.byContradiction
      intro hne
      obtain ⟨b, off, e, _⟩ := hr hne
      cases e
    subst hy
    exact ⟨v, W, run_app_nil W B _ ty _ i0 1 Tryz.underlying69 hi v _ _ hown c, by simpa using hown, World.grownBy.refl W _, Below.refl _ _⟩
  | some ad =>
    obtain ⟨v', w', hrun, h2, h3, _⟩ := run_append_own (P := Tryz.prog) W B 69 ty 9 i0 (.string ByteArray.empty) 1 16 Tryz.underlying69 hi hz0 hz1 hz2 rfl (by decide) v _ _ hown ad ys.length c (ys.map (encStr))
      (by simp) (by
        intro j u hu
        have hne : ys ≠ [] := by intro e; subst e; simp at hu
        obtain ⟨b, off, e, _, hc⟩ := hr hne
        have e2 : ad = ⟨b, off, none⟩ := Option.some.inj e
        rw [List.getElem?_map] at hu
        cases hy : ys[j]? with
        | none => simp only [hy, Option.map_none, reduceCtorEq] at hu
        | some y =>
          simp only [hy, Option.map_some, Option.some.injEq] at hu
          rw [← hu, e2, Addr.add_lit]
          exact hc j y hy) (strsE_oneCell _) (by unfold maxLen; omega) (by omega) hB
    exact ⟨v', w', hrun, by simpa [OwnTx] using h2, h3, (Below.refl _ _).grown h3 hB fun k hk => (hown.lt k hk).1⟩

theorem wp_appTx {o : Oper} {a : Act} {W : World} {K : Act → World → Prop} {Q : Exit → Act → World → Prop} (s x : Operand)
    (ho : o.op = .call { callee := .builtin .append, args := #[s, x], argTypes := #[69, 69] })
    (B : Nat) (v : Value) (xs ys : List (List UInt8)) (A : Option Addr) (c : Nat) (hs : a.eval s = v) (m : Nat) (hm : ys.length = m) (hx : a.eval x = .slice A m c) (hown : OwnTx W B v xs) (hr : Strs W A ys) (hB : B ≤ W.heap.size)
    (hn : xs.length + ys.length ≤ 1000000000000)
    (h : ∀ v' w', OwnTx w' B v' (xs ++ ys) → W.grownBy w' v.ownBlock → Below B W w' → K (a.put o.dst v') w') : o.wp Tryz.prog a W K Q := by
  subst hm
  obtain ⟨v', w', hrun, h2, h3, h4⟩ := run_appTx W B o.type v xs ys A c hown hr hB hn
  unfold Oper.wp execOp
  simp only [ho, resolve, invoke, builtin, Sem.run_bind, Sem.run_pure, Result.andThen_ok, List.map_toArray, List.map_cons, List.map_nil, hs, hx, hrun]
  exact h v' w' h2 h3 h4

theorem wpList_appTx {ops : Array Oper} {rest : List Oper} {o : Oper} {a : Act} {W : World} {Q : Exit → Act → World → Prop} (hgd : o.guard = none) (s x : Operand)
    (ho : o.op = .call { callee := .builtin .append, args := #[s, x], argTypes := #[69, 69] })
    (B : Nat) (v : Value) (xs ys : List (List UInt8)) (A : Option Addr) (c : Nat) (hs : a.eval s = v) (m : Nat) (hm : ys.length = m) (hx : a.eval x = .slice A m c) (hown : OwnTx W B v xs) (hr : Strs W A ys) (hB : B ≤ W.heap.size)
    (hn : xs.length + ys.length ≤ 1000000000000)
    (h : ∀ v' w', OwnTx w' B v' (xs ++ ys) → W.grownBy w' v.ownBlock → Below B W w' → wpList Tryz.prog ops Q rest (a.put o.dst v') w') : wpList Tryz.prog ops Q (o :: rest) a W :=
  wpList_plain hgd fun _ hK => wp_appTx s x ho B v xs ys A c hs m hm hx hown hr hB hn fun v' w' h2 h3 h4 => hK _ _ (h v' w' h2 h3 h4)

theorem step_appTx {ops : Array Oper} {o : Oper} {a : Act} {W : World} {K : Act → World → Prop} {Q : Exit → Act → World → Prop} {E : Prop} (hgd : o.guard = none) (s x : Operand)
    (ho : o.op = .call { callee := .builtin .append, args := #[s, x], argTypes := #[69, 69] })
    (B : Nat) (v : Value) (xs ys : List (List UInt8)) (A : Option Addr) (c : Nat) (hs : a.eval s = v) (m : Nat) (hm : ys.length = m) (hx : a.eval x = .slice A m c) (hown : OwnTx W B v xs) (hr : Strs W A ys) (hB : B ≤ W.heap.size)
    (hn : xs.length + ys.length ≤ 1000000000000)
    (h : ∀ v' w', OwnTx w' B v' (xs ++ ys) → W.grownBy w' v.ownBlock → Below B W w' → K (a.put o.dst v') w') :
    if Region.wanted o (yielded ops a.tmps) = true then Oper.wp Tryz.prog o a W K Q else E := by
  have hw : Region.wanted o (yielded ops a.tmps) = true := by simp [Region.wanted, hgd]
  rw [if_pos hw]
  exact wp_appTx s x ho B v xs ys A c hs m hm hx hown hr hB hn h

theorem own_belowTx {w w' : World} {B : Nat} {v : Value} {xs : List (List UInt8)} (h : OwnTx w B v xs) (hb : Below w.heap.size w w') : OwnTx w' B v xs :=
  World.ownsRow.kept (row := none) h ⟨hb.os, hb.tape, hb.output, hb.size, fun i hi _ => hb.block i hi⟩ (by cases hv : v.ownBlock <;> simp)
theorem own_lowTx {w : World} {B B' : Nat} {e : TypeId} {z n : Nat} {v : Value} {xs : List Value} (h : w.ownsRow B e z v n xs) (hB : ∀ g, v.ownBlock = some g → B' ≤ g) : w.ownsRow B' e z v n xs := by
  rcases h with ⟨h1, h2⟩
  refine ⟨h1, ?_⟩
  rcases h2 with h2 | ⟨g, cap, cur, e1, hb, rest⟩
  · exact Or.inl h2
  · exact Or.inr ⟨g, cap, cur, e1, hB g (by rw [e1]; rfl), rest⟩
theorem ownTx_addr {w : World} {B : Nat} {A : Option Addr} {c : Nat} {xs : List (List UInt8)} (h : OwnTx w B (.slice A xs.length c) xs) (h1 : 1 ≤ xs.length) : ∃ g, A = some ⟨g, 0, none⟩ := by
  rcases h.2 with ⟨_, h0⟩ | ⟨g, cap, cur, e, _⟩
  · omega
  · cases e; exact ⟨g, rfl⟩
theorem wpList_pushTx {ops : Array Oper} {rest : List Oper} {o : Oper} {a : Act} {Q : Exit → Act → World → Prop} {W : World} (hgd : o.guard = none) (s x : Operand)
    (ho : o.op = .call { callee := .builtin .append, args := #[s, x], argTypes := #[69, 69] })
    (B : Nat) (v : Value) (xs : List (List UInt8)) (z : List UInt8) (hs : a.eval s = v) (hx : a.eval x = .slice (some ⟨W.heap.size, 0, none⟩) 1 1) (hown : OwnTx W B v xs) (hB : B ≤ W.heap.size) (hn : xs.length ≤ 1000000000000)
    (h : ∀ v' w', OwnTx w' B v' (xs ++ [z]) → W.grownBy w' v.ownBlock → Below B W w' → wpList Tryz.prog ops Q rest (a.put o.dst v') w') :
    wpList Tryz.prog ops Q (o :: rest) a (W.alloc (.cells #[encStr z] 9)) := by
  obtain ⟨i0, hi, hz0, hz1, hz2⟩ := info_parts Tryz.infoStrE
  refine wpList_append_own _ hgd s x 69 ho B 9 i0 (.string ByteArray.empty) 1 16 Tryz.underlying69 hi hz0 hz1 hz2 rfl (by decide) v _ _ hs (hown.alloc _) ⟨W.heap.size, 0, none⟩ 1 1 [encStr z] hx rfl ?_ ?_ ?_ ?_ ?_ ?_
  · intro j u hj
    match j, hj with
    | 0, hj => simp at hj; subst hj; simp [Addr.add]
  · intro u hu; simp at hu; subst hu; rfl
  · unfold maxLen; omega
  · omega
  · simp; omega
  · intro v' w' ho' hg _
    have hg' : W.grownBy w' v.ownBlock := ⟨hg.os, hg.tape, hg.output, Nat.le_trans (by simp) hg.size, fun k hk hne => (hg.block k (by simp; omega) hne).trans (Below.heap_alloc W _ k hk)⟩
    refine h v' w' (by simpa [OwnTx] using ho') hg' ((Below.refl _ _).grown hg' hB fun k hk => (hown.lt k hk).1)
end Go.Proofs.YtmohfibgefcefaaGreatDoor
