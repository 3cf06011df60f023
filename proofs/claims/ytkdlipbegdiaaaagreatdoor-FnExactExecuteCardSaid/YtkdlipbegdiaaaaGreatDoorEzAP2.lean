/- The words for memory that all walks of this seat share: a slice of integers that reads as a list, a block known whole, what a call may write. No condition. append of a slice of integers, nil or not, to a row of the call's own; a cut of a slice that reads as a list. No condition. Rows of bytes that the call itself made: append, and the text they make. No condition. Slices of texts in memory: a slice that reads as a list of texts, a row of the call's own, append to it. No condition but sizes. The program's tests of angles, folds and lengths. No condition but sizes. -/
import Derived.Test.YtkdlipbegdiaaaaGreatDoorRows
import Derived.WalkKit
import Derived.WalkSpells
import Derived.WalkLawsBesides
import Derived.Lib.Hide
import Derived.LaidEqlPtr
import Derived.BigQuiet
import Derived.Deep.QuietTactic
import Derived.Deep.AppendLies
import Derived.Maps.AppendAt
import Derived.Deep.Draws
import Derived.Deep.DeepCutAuto
import Derived.BigRegion
import Derived.Deep.RegionLaw
import Derived.Deep.RegionHeld3
import Derived.Sort.EncStr
import Derived.Test.YtkdlipbegdiaaaaGreatDoorEzAP0
namespace Go.Proofs.YtkdlipbegdiaaaaGreatDoor
open Go.RowKit
/-- the cells of a slice of integers, where there are any -/
def Ints (w : World) (A : Option Addr) (xs : List Int) : Prop :=
  xs ≠ [] → ∃ b off, A = some ⟨b, off, none⟩ ∧ b < w.heap.size ∧ ∀ k x, xs[k]? = some x → w.cell? ⟨b, off + k, none⟩ = some (.int .i64 x)
theorem Ints.at_ {w : World} {A : Option Addr} {xs : List Int} {k : Nat} (h : Ints w A xs) (hk : k < xs.length) :
    ∃ b off x, A = some ⟨b, off, none⟩ ∧ b < w.heap.size ∧ Hid (xs.drop k = x :: xs.drop (k + 1)) ∧ w.cell? ⟨b, off + k, none⟩ = some (.int .i64 x) ∧ x ∈ xs := by
  obtain ⟨b, off, e, hb, hc⟩ := h (by intro e; subst e; simp at hk)
  exact ⟨b, off, xs[k], e, hb, List.drop_eq_getElem_cons hk, hc k _ (List.getElem?_eq_getElem hk), List.getElem_mem hk⟩
theorem Ints.nil (w : World) (A : Option Addr) : Ints w A [] := fun h => absurd rfl h
theorem Ints.keep {w w' : World} {A : Option Addr} {xs : List Int} (h : Ints w A xs) (hs : w.heap.size ≤ w'.heap.size) (hk : ∀ p : Addr, p.block < w.heap.size → w'.cell? p = w.cell? p) : Ints w' A xs := by
  intro hn
  obtain ⟨b, off, e, hb, hc⟩ := h hn
  exact ⟨b, off, e, Nat.lt_of_lt_of_le hb hs, fun k x hx => (hk ⟨b, off + k, none⟩ hb).trans (hc k x hx)⟩
theorem Ints.below {w w' : World} {A : Option Addr} {xs : List Int} (h : Ints w A xs) (hb : Below w.heap.size w w') : Ints w' A xs :=
  h.keep hb.size fun _ hp => hb.cell hp
theorem Ints.drew {w : World} {A : Option Addr} {xs : List Int} (h : Ints w A xs) : Ints w.drew A xs := h
theorem Ints.alloc {w : World} {A : Option Addr} {xs : List Int} (h : Ints w A xs) (o : Obj) : Ints (w.alloc o) A xs :=
  h.below ((Below.refl _ _).alloc (Nat.le_refl _) o)
theorem Ints.of_own {w : World} {base : Nat} {e : TypeId} {A : Option Addr} {n c : Nat} {xs : List Int} (h : w.ownsRow base e 1 (.slice A n c) n (xs.map (Value.int .i64))) : Ints w A xs := by
  intro hn
  have hlen := h.1
  rcases h.2 with ⟨_, h0⟩ | ⟨g, cap, cur, hv, hb, hg, hnc, _, _, htake⟩
  · exfalso; apply hn; apply List.eq_nil_of_length_eq_zero; simpa [h0] using hlen
  · injection hv with hA
    subst hA
    refine ⟨g, 0, rfl, (Array.getElem?_eq_some_iff.1 hg).1, fun k x hx => ?_⟩
    have := h.cells (g := g) rfl k (.int .i64 x) (by rw [List.getElem?_map, hx]; rfl)
    rw [← this]
    congr 1
    unfold Addr.add
    split
    · next h0 => subst h0; simp
    · simp
theorem run_neq_ptr_same {P : Program} (w : World) {tp te : TypeId} {j : TypeInfo} (a : Addr) (hp : P.underlying tp = some (.pointer te)) (hte : P.info? te = some j) :
    (binOp .neq tp (.pointer (some a)) (.pointer (some a))).run P w = .ok (.bool false) w := by
  have h : ∀ d : Nat, (Op.equalIn (d + 1) tp (.pointer (some a)) (.pointer (some a))).run P w = .ok true w := fun d => by
    simp [Op.equalIn, run_underlying hp, sizeOf, typeInfo, hte, run_sameAddr_same]
  simp only [binOp]
  simp [Op.equal, Op.maxDepth, h 9999]
theorem run_neq_ptr_other {P : Program} (w : World) {tp te : TypeId} {j : TypeInfo} {a b : Addr} {ca cb : Array Value} {ta tb : TypeId} (hp : P.underlying tp = some (.pointer te)) (hte : P.info? te = some j) (hsz : j.size ≠ 0)
    (hne : a ≠ b) (ha : w.heap[a.block]? = some (.cells ca ta (0, 0))) (hb : w.heap[b.block]? = some (.cells cb tb (0, 0))) :
    (binOp .neq tp (.pointer (some a)) (.pointer (some b))).run P w = .ok (.bool true) w := by
  have h : ∀ d : Nat, (Op.equalIn (d + 1) tp (.pointer (some a)) (.pointer (some b))).run P w = .ok false w := fun d => by
    simp [Op.equalIn, run_underlying hp, sizeOf, typeInfo, hte, hsz, run_sameAddr_other w hne ha hb]
  simp only [binOp]
  simp [Op.equal, Op.maxDepth, h 9999]
/-- block g is just these cells, none frozen -/
def Blk (w : World) (g : Nat) (t : TypeId) (cs : Array Value) : Prop := w.heap[g]? = some (.cells cs t (0, 0))
section
variable {w w' : World} {g : Nat} {t : TypeId} {cs : Array Value}
theorem Blk.lt (h : Blk w g t cs) : g < w.heap.size := by
  rcases Nat.lt_or_ge g w.heap.size with hlt | hge
  · exact hlt
  · unfold Blk at h; rw [Array.getElem?_eq_none hge] at h; cases h
theorem Blk.cell (h : Blk w g t cs) (i : Nat) : w.cell? ⟨g, i, none⟩ = cs[i]? := cell_of_row w g i cs t (0, 0) h
theorem Blk.frozen (h : Blk w g t cs) (i : Nat) : w.frozen? ⟨g, i, none⟩ = false := by
  unfold Blk at h
  simp [World.frozen?, h]
theorem Blk.new (w : World) (t : TypeId) (cs : Array Value) : Blk (w.alloc (.cells cs t)) w.heap.size t cs := heap_alloc_new w _
theorem Blk.drew (h : Blk w g t cs) : Blk w.drew g t cs := h
theorem Blk.drewN (h : Blk w g t cs) (n : Nat) : Blk (w.drewN n) g t cs := h
theorem Blk.alloc (h : Blk w g t cs) (o : Obj) : Blk (w.alloc o) g t cs := (Below.heap_alloc w o g h.lt).trans h
theorem Blk.set_ (h : Blk w g t cs) (i : Nat) (u : Value) : Blk (w.setCell ⟨g, i, none⟩ u) g t (cs.setIfInBounds i u) := by
  unfold Blk at h ⊢
  simp [World.setCell, Array.getElem?_modify, h]
theorem Blk.far (h : Blk w g t cs) {p : Addr} (hp : g ≠ p.block) (u : Value) : Blk (w.setCell p u) g t cs := (Below.heap_setCell w p u g hp).trans h
theorem Blk.below {B : Nat} (h : Blk w g t cs) (hb : Below B w w') (hg : g < B) : Blk w' g t cs := (hb.block g hg).trans h
theorem Blk.grown {row : Option Nat} (h : Blk w g t cs) (hb : w.grownBy w' row) (hg : some g ≠ row) : Blk w' g t cs := (hb.block g h.lt hg).trans h
theorem Blk.ne_ {g' : Nat} {t' : TypeId} {cs' : Array Value} (h : Blk w g t cs) (h' : Blk w g' t' cs') (hne : t ≠ t') : g ≠ g' := by
  rintro rfl
  unfold Blk at h h'
  rw [h] at h'
  injection h' with h'
  injection h' with _ ht
  exact hne ht
theorem own_blk_ne {base : Nat} {e : TypeId} {size n : Nat} {v : Value} {xs : List Value} (h : w.ownsRow base e size v n xs) (hg : Blk w g t cs) (hne : e ≠ t) : v.ownBlock ≠ some g := by
  rcases h.2 with ⟨rfl, _⟩ | ⟨g', cap, cur, rfl, _, hh, _⟩
  · simp [Value.ownBlock]
  · intro he
    have : g' = g := by simpa [Value.ownBlock] using he
    subst this
    exact Blk.ne_ (t := e) hh hg hne rfl
end
theorem below_drewN {B : Nat} {a w : World} (h : Below B a w) (n : Nat) : Below B a (w.drewN n) := ⟨h.os, h.tape, h.output, h.size, h.block⟩
/-- a contract that says 'below H', H the heap's size, handed on -/
theorem below_from {B : Nat} {a w w' : World} (h : Below B a w) (k : Below w.heap.size w w') (hB : B ≤ w.heap.size) : Below B a w' := h.trans (k.mono hB)
/-- at a call in a region that only reads, of a callee that leaves the world as it was -/
theorem quietl {P : Program} {f : FuncId} {args : Array Value} {w : World} {n : Nat} {v : Value} (h : Calls P f args (w.drewN n) fun e w' => e = .returned v ∧ w.drewN n = w') :
    Calls P f args (w.drewN n) fun e w'' => e = .returned v ∧ ∃ m, w'' = w.drewN m := h.mono fun _ _ ⟨he, hm⟩ => ⟨he, n, hm.symm⟩
theorem ret_int {k : IntKind} {a b : Int} (h : a = b) : Ending.returned (.int k a) = .returned (.int k b) := by rw [h]
theorem ret_bool {a b : Bool} (h : a = b) : Ending.returned (.bool a) = .returned (.bool b) := by rw [h]
/-! ### append of one element to a row of the call's own -/
theorem Tryz.infoInt : (Tryz.prog.info? 3).map (fun i => (i.zero, i.size, i.bytes)) = some (some (.int .i64 0), 1, 8) := by kernel_rfl
/-- the integers xs, in a row that the call itself made, from block B on -/
abbrev Own (w : World) (B : Nat) (v : Value) (xs : List Int) : Prop := w.ownsRow B 3 1 v xs.length (xs.map (Value.int .i64))
theorem Own.form {w : World} {B : Nat} {v : Value} {xs : List Int} (h : Own w B v xs) : ∃ A c, v = .slice A xs.length c ∧ Ints w A xs ∧ xs.length ≤ c ∧ c ≤ maxLen := by
  rcases h.2 with ⟨rfl, h0⟩ | ⟨g, cap, cur, rfl, hb, hg, hnc, hcm, _, _⟩
  · exact ⟨none, 0, by rw [h0], by rw [List.eq_nil_of_length_eq_zero h0]; exact Ints.nil _ _, by omega, by simp [maxLen]⟩
  · exact ⟨_, cap, rfl, Ints.of_own h, hnc, hcm⟩
theorem wpList_push {ops : Array Oper} {rest : List Oper} {o : Oper} {a : Act} {Q : Exit → Act → World → Prop} {W : World} (hgd : o.guard = none) (s x : Operand)
    (ho : o.op = .call { callee := .builtin .append, args := #[s, x], argTypes := #[23, 23] })
    (B : Nat) (v : Value) (xs : List Int) (z : Int) (hs : a.eval s = v) (hx : a.eval x = .slice (some ⟨W.heap.size, 0, none⟩) 1 1) (hown : Own W B v xs) (hB : B ≤ W.heap.size) (hn : xs.length ≤ 1000000000000)
    (h : ∀ v' w', Own w' B v' (xs ++ [z]) → W.grownBy w' v.ownBlock → Below B W w' → wpList Tryz.prog ops Q rest (a.put o.dst v') w') :
    wpList Tryz.prog ops Q (o :: rest) a (W.alloc (.cells #[.int .i64 z] 3)) := by
  obtain ⟨i0, hi, hz0, hz1, hz2⟩ := info_parts Tryz.infoInt
  refine wpList_append_own _ hgd s x 23 ho B 3 i0 (.int .i64 0) 1 8 Tryz.underlying23 hi hz0 hz1 hz2 rfl (by decide) v _ _ hs (hown.alloc _) ⟨W.heap.size, 0, none⟩ 1 1 [.int .i64 z] hx rfl ?_ ?_ ?_ ?_ ?_ ?_
  · intro j u hj
    match j, hj with
    | 0, hj => simp at hj; subst hj; simp [Addr.add]
  · intro u hu; simp at hu; subst hu; rfl
  · unfold maxLen; omega
  · omega
  · simp; omega
  · intro v' w' ho' hg _
    have hg' : W.grownBy w' v.ownBlock := ⟨hg.os, hg.tape, hg.output, Nat.le_trans (by simp) hg.size, fun k hk hne => (hg.block k (by simp; omega) hne).trans (Below.heap_alloc W _ k hk)⟩
    refine h v' w' (by simpa [Own] using ho') hg' ((Below.refl _ _).grown hg' hB fun k hk => (hown.lt k hk).1)
/-- an empty row, just laid -/
theorem own_empty (w : World) {B : Nat} (hB : B ≤ w.heap.size) : Own (w.alloc (.cells #[] 3)) B (.slice (some ⟨w.heap.size, 0, none⟩) 0 0) [] :=
  World.ownsRow_lit w #[] 0 hB (by unfold maxLen; omega) rfl
end Go.Proofs.YtkdlipbegdiaaaaGreatDoor
namespace Go.Proofs.YtkdlipbegdiaaaaGreatDoor
open Go.RowKit
theorem run_app_nil {P : Program} (w : World) (B : Nat) (t ty e : TypeId) (i : TypeInfo) (size : Nat) (ht : P.underlying t = some (.slice e)) (hi : P.info? e = some i)
    (v : Value) (n : Nat) (xs : List Value) (hown : w.ownsRow B e size v n xs) (c : Nat) : (Builtin.append_ #[t, t] ty #[v, .slice none 0 c]).run P w = .ok v w := by
  rcases hown.2 with ⟨rfl, rfl⟩ | ⟨g, cap, cur, rfl, _, _, hnc, _⟩
  · simp [Builtin.append_, run_underlying ht, sizeOf, typeInfo, hi, Builtin.lenOf, Builtin.firstCells]
  · simp [Builtin.append_, run_underlying ht, sizeOf, typeInfo, hi, Builtin.lenOf, Builtin.firstCells, hnc, storeCells]
theorem run_app (W : World) (B : Nat) (ty : TypeId) (v : Value) (xs ys : List Int) (A : Option Addr) (c : Nat) (hown : Own W B v xs) (hr : Ints W A ys) (hB : B ≤ W.heap.size)
    (hn : xs.length + ys.length ≤ 1000000000000) :
    ∃ v' w', (Builtin.append_ #[23, 23] ty #[v, .slice A ys.length c]).run Tryz.prog W = .ok v' w' ∧ Own w' B v' (xs ++ ys) ∧ W.grownBy w' v.ownBlock ∧ Below B W w' := by
  obtain ⟨i0, hi, hz0, hz1, hz2⟩ := info_parts Tryz.infoInt
  cases A with
  | none =>
    have hy : ys = [] := by
      apply Classical.byContradiction
      intro hne
      obtain ⟨b, off, e, _⟩ := hr hne
      cases e
    subst hy
    exact ⟨v, W, run_app_nil W B _ ty _ i0 1 Tryz.underlying23 hi v _ _ hown c, by simpa using hown, World.grownBy.refl W _, Below.refl _ _⟩
  | some ad =>
    obtain ⟨v', w', hrun, h2, h3, _⟩ := run_append_own (P := Tryz.prog) W B 23 ty 3 i0 (.int .i64 0) 1 8 Tryz.underlying23 hi hz0 hz1 hz2 rfl (by decide) v _ _ hown ad ys.length c (ys.map (Value.int .i64))
      (by simp) (by
        intro j u hu
        have hne : ys ≠ [] := by intro e; subst e; simp at hu
        obtain ⟨b, off, e, _, hc⟩ := hr hne
        have e2 : ad = ⟨b, off, none⟩ := Option.some.inj e
        rw [List.getElem?_map] at hu
        cases hy : ys[j]? with
        | none => simp only [hy, Option.map_none, reduceCtorEq] at hu
        | some y =>
          simp only [hy, Option.map_some, Option.some.injEq] at hu
          rw [← hu, e2, Addr.add_lit]
          exact hc j y hy) (ints_oneCell _ _) (by unfold maxLen; omega) (by omega) hB
    exact ⟨v', w', hrun, by simpa [Own] using h2, h3, (Below.refl _ _).grown h3 hB fun k hk => (hown.lt k hk).1⟩
theorem wp_app {o : Oper} {a : Act} {W : World} {K : Act → World → Prop} {Q : Exit → Act → World → Prop} (s x : Operand)
    (ho : o.op = .call { callee := .builtin .append, args := #[s, x], argTypes := #[23, 23] })
    (B : Nat) (v : Value) (xs ys : List Int) (A : Option Addr) (c : Nat) (hs : a.eval s = v) (m : Nat) (hm : ys.length = m) (hx : a.eval x = .slice A m c) (hown : Own W B v xs) (hr : Ints W A ys) (hB : B ≤ W.heap.size)
    (hn : xs.length + ys.length ≤ 1000000000000)
    (h : ∀ v' w', Own w' B v' (xs ++ ys) → W.grownBy w' v.ownBlock → Below B W w' → K (a.put o.dst v') w') : o.wp Tryz.prog a W K Q := by
  subst hm
  obtain ⟨v', w', hrun, h2, h3, h4⟩ := run_app W B o.type v xs ys A c hown hr hB hn
  unfold Oper.wp execOp
  simp only [ho, resolve, invoke, builtin, Sem.run_bind, Sem.run_pure, Result.andThen_ok, List.map_toArray, List.map_cons, List.map_nil, hs, hx, hrun]
  exact h v' w' h2 h3 h4
theorem wpList_app {ops : Array Oper} {rest : List Oper} {o : Oper} {a : Act} {W : World} {Q : Exit → Act → World → Prop} (hgd : o.guard = none) (s x : Operand)
    (ho : o.op = .call { callee := .builtin .append, args := #[s, x], argTypes := #[23, 23] })
    (B : Nat) (v : Value) (xs ys : List Int) (A : Option Addr) (c : Nat) (hs : a.eval s = v) (m : Nat) (hm : ys.length = m) (hx : a.eval x = .slice A m c) (hown : Own W B v xs) (hr : Ints W A ys) (hB : B ≤ W.heap.size)
    (hn : xs.length + ys.length ≤ 1000000000000)
    (h : ∀ v' w', Own w' B v' (xs ++ ys) → W.grownBy w' v.ownBlock → Below B W w' → wpList Tryz.prog ops Q rest (a.put o.dst v') w') : wpList Tryz.prog ops Q (o :: rest) a W :=
  wpList_plain hgd fun _ hK => wp_app s x ho B v xs ys A c hs m hm hx hown hr hB hn fun v' w' h2 h3 h4 => hK _ _ (h v' w' h2 h3 h4)
theorem step_app {ops : Array Oper} {o : Oper} {a : Act} {W : World} {K : Act → World → Prop} {Q : Exit → Act → World → Prop} {E : Prop} (hgd : o.guard = none) (s x : Operand)
    (ho : o.op = .call { callee := .builtin .append, args := #[s, x], argTypes := #[23, 23] })
    (B : Nat) (v : Value) (xs ys : List Int) (A : Option Addr) (c : Nat) (hs : a.eval s = v) (m : Nat) (hm : ys.length = m) (hx : a.eval x = .slice A m c) (hown : Own W B v xs) (hr : Ints W A ys) (hB : B ≤ W.heap.size)
    (hn : xs.length + ys.length ≤ 1000000000000)
    (h : ∀ v' w', Own w' B v' (xs ++ ys) → W.grownBy w' v.ownBlock → Below B W w' → K (a.put o.dst v') w') :
    if Region.wanted o (yielded ops a.tmps) = true then Oper.wp Tryz.prog o a W K Q else E := by
  have hw : Region.wanted o (yielded ops a.tmps) = true := by simp [Region.wanted, hgd]
  rw [if_pos hw]
  exact wp_app s x ho B v xs ys A c hs m hm hx hown hr hB hn h
theorem own_one (w : World) {B : Nat} (z : Int) (hB : B ≤ w.heap.size) : Own (w.alloc (.cells #[.int .i64 z] 3)) B (.slice (some ⟨w.heap.size, 0, none⟩) 1 1) [z] :=
  World.ownsRow_lit w #[.int .i64 z] 1 hB (by unfold maxLen; omega) rfl
/-- a cut of a slice that reads as a list, its address written out -/
theorem Ints.cut {w : World} {b off : Nat} {xs : List Int} (h : Ints w (some ⟨b, off, none⟩) xs) (lo m : Nat) : Ints w (some ⟨b, off + lo, none⟩) ((xs.drop lo).take m) := by
  intro hn
  obtain ⟨b', off', e, hb, hc⟩ := h (by intro e; subst e; simp at hn)
  injection e with e
  injection e with e1 e2
  subst e1 e2
  refine ⟨b, off + lo, rfl, hb, fun k x hx => ?_⟩
  rw [List.getElem?_take] at hx
  split at hx
  · rw [List.getElem?_drop] at hx
    rw [Nat.add_assoc]
    exact hc _ _ hx
  · cases hx
end Go.Proofs.YtkdlipbegdiaaaaGreatDoor
namespace Go.Proofs.YtkdlipbegdiaaaaGreatDoor
open Go.RowKit
theorem Tryz.infoByte : (Tryz.prog.info? 5).map (fun i => (i.zero, i.size, i.bytes)) = some (some (.int .u8 0), 1, 1) := by kernel_rfl
/-- the bytes bs as values -/
def byteVals (bs : List UInt8) : List Value := bs.map fun c => Value.int .u8 (c.toNat : Int)
theorem byteVals_len (bs : List UInt8) : (byteVals bs).length = bs.length := by simp [byteVals]
/-- the bytes bs, in a row that the call itself made, from block B on -/
abbrev OwnB (w : World) (B : Nat) (v : Value) (bs : List UInt8) : Prop := w.ownsRow B 5 1 v bs.length (byteVals bs)
theorem wpList_pushB {ops : Array Oper} {rest : List Oper} {o : Oper} {a : Act} {Q : Exit → Act → World → Prop} {W : World} (hgd : o.guard = none) (s x : Operand)
    (ho : o.op = .call { callee := .builtin .append, args := #[s, x], argTypes := #[22, 22] })
    (B : Nat) (v : Value) (bs : List UInt8) (z : UInt8) (zi : Int) (hzi : (z.toNat : Int) = zi) (hs : a.eval s = v) (hx : a.eval x = .slice (some ⟨W.heap.size, 0, none⟩) 1 1) (hown : OwnB W B v bs) (hB : B ≤ W.heap.size) (hn : bs.length ≤ 1000000000000)
    (h : ∀ v' w', OwnB w' B v' (bs ++ [z]) → W.grownBy w' v.ownBlock → Below B W w' → wpList Tryz.prog ops Q rest (a.put o.dst v') w') :
    wpList Tryz.prog ops Q (o :: rest) a (W.alloc (.cells #[.int .u8 zi] 5)) := by
  subst hzi
  obtain ⟨i0, hi, hz0, hz1, hz2⟩ := info_parts Tryz.infoByte
  refine wpList_append_own _ hgd s x 22 ho B 5 i0 (.int .u8 0) 1 1 Tryz.underlying22 hi hz0 hz1 hz2 rfl (by decide) v _ _ hs (hown.alloc _) ⟨W.heap.size, 0, none⟩ 1 1 [.int .u8 (z.toNat : Int)] hx rfl ?_ ?_ ?_ ?_ ?_ ?_
  · intro j u hj
    match j, hj with
    | 0, hj => simp at hj; subst hj; simp [Addr.add]
  · intro u hu; simp at hu; subst hu; rfl
  · unfold maxLen; omega
  · omega
  · simp; omega
  · intro v' w' ho' hg _
    have hg' : W.grownBy w' v.ownBlock := ⟨hg.os, hg.tape, hg.output, Nat.le_trans (by simp) hg.size, fun k hk hne => (hg.block k (by simp; omega) hne).trans (Below.heap_alloc W _ k hk)⟩
    refine h v' w' (by simpa [OwnB, byteVals] using ho') hg' ((Below.refl _ _).grown hg' hB fun k hk => (hown.lt k hk).1)
/-- rows of different element types are different rows -/
theorem own_ne {w : World} {B B' : Nat} {e e' : TypeId} {z z' : Nat} {v v' : Value} {n n' : Nat} {xs xs' : List Value} (h : w.ownsRow B e z v n xs) (h' : w.ownsRow B' e' z' v' n' xs') (hne : e ≠ e') :
    v.ownBlock = none ∨ v.ownBlock ≠ v'.ownBlock := by
  rcases h.2 with ⟨rfl, _⟩ | ⟨g, cap, cur, rfl, _, hg, _⟩
  · exact Or.inl rfl
  · rcases h'.2 with ⟨rfl, _⟩ | ⟨g', cap', cur', rfl, _, hg', _⟩
    · exact Or.inr (by simp [Value.ownBlock])
    · refine Or.inr fun e0 => ?_
      have e1 : g = g' := by simpa [Value.ownBlock] using e0
      subst e1
      rw [hg] at hg'
      injection hg' with hg'
      injection hg' with _ ht
      exact hne ht
/-- the text that a row of bytes makes -/
theorem run_ownB_string {w : World} {B : Nat} {v : Value} {bs : List UInt8} (h : OwnB w B v bs) : (convert 22 9 v).run Tryz.prog w = .ok (.string ⟨bs.toArray⟩) w := by
  rcases h.2 with ⟨rfl, h0⟩ | ⟨g, cap, cur, rfl, hb, hg, hnc, hcm, _, htake⟩
  · have : bs = [] := List.eq_nil_of_length_eq_zero h0
    subst this
    rw [run_convert_bytes_nil w 22 5 Tryz.underlying22 Tryz.underlying5 0 0 9 Tryz.underlying9]
    rfl
  · refine run_convert_bytes_back w 22 9 5 ⟨g, 0, none⟩ cap bs Tryz.underlying22 Tryz.underlying5 Tryz.underlying9 fun j hj => ?_
    have := h.cells (g := g) rfl j (.int .u8 (bs[j].toNat : Int)) (by simp [byteVals, hj])
    exact this
end Go.Proofs.YtkdlipbegdiaaaaGreatDoor
namespace Go.Proofs.YtkdlipbegdiaaaaGreatDoor
open Go.RowKit
theorem Tryz.infoStrE : (Tryz.prog.info? 9).map (fun i => (i.zero, i.size, i.bytes)) = some (some (.string ByteArray.empty), 1, 16) := by kernel_rfl
/-- the cells of a slice of texts, where there are any -/
def Strs (w : World) (A : Option Addr) (xs : List (List UInt8)) : Prop :=
  xs ≠ [] → ∃ b off, A = some ⟨b, off, none⟩ ∧ b < w.heap.size ∧ ∀ k x, xs[k]? = some x → w.cell? ⟨b, off + k, none⟩ = some (encStr x)
theorem Strs.at_ {w : World} {A : Option Addr} {xs : List (List UInt8)} {k : Nat} (h : Strs w A xs) (hk : k < xs.length) :
    ∃ b off x, A = some ⟨b, off, none⟩ ∧ b < w.heap.size ∧ Hid (xs.drop k = x :: xs.drop (k + 1)) ∧ w.cell? ⟨b, off + k, none⟩ = some (encStr x) ∧ x ∈ xs := by
  obtain ⟨b, off, e, hb, hc⟩ := h (by intro e; subst e; simp at hk)
  exact ⟨b, off, xs[k], e, hb, List.drop_eq_getElem_cons hk, hc k _ (List.getElem?_eq_getElem hk), List.getElem_mem hk⟩
theorem Strs.nil (w : World) (A : Option Addr) : Strs w A [] := fun h => absurd rfl h
theorem Strs.keep {w w' : World} {A : Option Addr} {xs : List (List UInt8)} (h : Strs w A xs) (hs : w.heap.size ≤ w'.heap.size) (hk : ∀ p : Addr, p.block < w.heap.size → w'.cell? p = w.cell? p) : Strs w' A xs := by
  intro hn
  obtain ⟨b, off, e, hb, hc⟩ := h hn
  exact ⟨b, off, e, Nat.lt_of_lt_of_le hb hs, fun k x hx => (hk ⟨b, off + k, none⟩ hb).trans (hc k x hx)⟩
theorem Strs.below {w w' : World} {A : Option Addr} {xs : List (List UInt8)} (h : Strs w A xs) (hb : Below w.heap.size w w') : Strs w' A xs :=
  h.keep hb.size fun _ hp => hb.cell hp
theorem Strs.drew {w : World} {A : Option Addr} {xs : List (List UInt8)} (h : Strs w A xs) : Strs w.drew A xs := h
theorem Strs.alloc {w : World} {A : Option Addr} {xs : List (List UInt8)} (h : Strs w A xs) (o : Obj) : Strs (w.alloc o) A xs :=
  h.below ((Below.refl _ _).alloc (Nat.le_refl _) o)
theorem Strs.of_own {w : World} {base : Nat} {e : TypeId} {A : Option Addr} {n c : Nat} {xs : List (List UInt8)} (h : w.ownsRow base e 1 (.slice A n c) n (xs.map (encStr))) : Strs w A xs := by
  intro hn
  have hlen := h.1
  rcases h.2 with ⟨_, h0⟩ | ⟨g, cap, cur, hv, hb, hg, hnc, _, _, htake⟩
  · exfalso; apply hn; apply List.eq_nil_of_length_eq_zero; simpa [h0] using hlen
  · injection hv with hA
    subst hA
    refine ⟨g, 0, rfl, (Array.getElem?_eq_some_iff.1 hg).1, fun k x hx => ?_⟩
    have := h.cells (g := g) rfl k (encStr x) (by rw [List.getElem?_map, hx]; rfl)
    rw [← this]
    congr 1
    unfold Addr.add
    split
    · next h0 => subst h0; simp
    · simp
/-- the integers xs, in a row that the call itself made, from block B on -/
abbrev OwnTx (w : World) (B : Nat) (v : Value) (xs : List (List UInt8)) : Prop := w.ownsRow B 9 1 v xs.length (xs.map (encStr))
theorem OwnTx.form {w : World} {B : Nat} {v : Value} {xs : List (List UInt8)} (h : OwnTx w B v xs) : ∃ A c, v = .slice A xs.length c ∧ Strs w A xs ∧ xs.length ≤ c ∧ c ≤ maxLen := by
  rcases h.2 with ⟨rfl, h0⟩ | ⟨g, cap, cur, rfl, hb, hg, hnc, hcm, _, _⟩
  · exact ⟨none, 0, by rw [h0], by rw [List.eq_nil_of_length_eq_zero h0]; exact Strs.nil _ _, by omega, by simp [maxLen]⟩
  · exact ⟨_, cap, rfl, Strs.of_own h, hnc, hcm⟩
/-- an empty row, just laid -/
theorem ownTx_empty (w : World) {B : Nat} (hB : B ≤ w.heap.size) : OwnTx (w.alloc (.cells #[] 9)) B (.slice (some ⟨w.heap.size, 0, none⟩) 0 0) [] :=
  World.ownsRow_lit w #[] 0 hB (by unfold maxLen; omega) rfl
theorem own_belowTx {w w' : World} {B : Nat} {v : Value} {xs : List (List UInt8)} (h : OwnTx w B v xs) (hb : Below w.heap.size w w') : OwnTx w' B v xs :=
  World.ownsRow.kept (row := none) h ⟨hb.os, hb.tape, hb.output, hb.size, fun i hi _ => hb.block i hi⟩ (by cases hv : v.ownBlock <;> simp)
theorem ownTx_addr {w : World} {B : Nat} {A : Option Addr} {c : Nat} {xs : List (List UInt8)} (h : OwnTx w B (.slice A xs.length c) xs) (h1 : 1 ≤ xs.length) : ∃ g, A = some ⟨g, 0, none⟩ := by
  rcases h.2 with ⟨_, h0⟩ | ⟨g, cap, cur, e, _⟩
  · omega
  · cases e; exact ⟨g, rfl⟩
theorem wpList_pushTx {ops : Array Oper} {rest : List Oper} {o : Oper} {a : Act} {Q : Exit → Act → World → Prop} {W : World} (hgd : o.guard = none) (s x : Operand)
    (ho : o.op = .call { callee := .builtin .append, args := #[s, x], argTypes := #[46, 46] })
    (B : Nat) (v : Value) (xs : List (List UInt8)) (z : List UInt8) (hs : a.eval s = v) (hx : a.eval x = .slice (some ⟨W.heap.size, 0, none⟩) 1 1) (hown : OwnTx W B v xs) (hB : B ≤ W.heap.size) (hn : xs.length ≤ 1000000000000)
    (h : ∀ v' w', OwnTx w' B v' (xs ++ [z]) → W.grownBy w' v.ownBlock → Below B W w' → wpList Tryz.prog ops Q rest (a.put o.dst v') w') :
    wpList Tryz.prog ops Q (o :: rest) a (W.alloc (.cells #[encStr z] 9)) := by
  obtain ⟨i0, hi, hz0, hz1, hz2⟩ := info_parts Tryz.infoStrE
  refine wpList_append_own _ hgd s x 46 ho B 9 i0 (.string ByteArray.empty) 1 16 Tryz.underlying46 hi hz0 hz1 hz2 rfl (by decide) v _ _ hs (hown.alloc _) ⟨W.heap.size, 0, none⟩ 1 1 [encStr z] hx rfl ?_ ?_ ?_ ?_ ?_ ?_
  · intro j u hj
    match j, hj with
    | 0, hj => simp at hj; subst hj; simp [Addr.add]
  · intro u hu; simp at hu; subst hu; rfl
  · unfold maxLen; omega
  · omega
  · simp; omega
  · intro v' w' ho' hg _
    have hg' : W.grownBy w' v.ownBlock := ⟨hg.os, hg.tape, hg.output, Nat.le_trans (by simp) hg.size, fun k hk hne => (hg.block k (by simp; omega) hne).trans (Below.heap_alloc W _ k hk)⟩
    refine h v' w' (by simpa [OwnTx] using ho') hg' ((Below.refl _ _).grown hg' hB fun k hk => (hown.lt k hk).1)
end Go.Proofs.YtkdlipbegdiaaaaGreatDoor
namespace Go.Proofs.YtkdlipbegdiaaaaGreatDoor
open Go.RowKit
set_option maxHeartbeats 400000 in
theorem impl_balanced (A : Option Addr) (cap : Nat) (xs : List Int) (w : World) (h : Ints w A xs) (hl : xs.length ≤ 100) (hx : ∀ x ∈ xs, 0 ≤ x ∧ x ≤ 1000) :
    Calls Tryz.prog 173 #[.slice A xs.length cap] w fun e w' => e = .returned (.bool (balB xs)) ∧ w = w' := by
  go_enter Tryz.func173, Tryz.ntmps173
  go_wp2
  go_loop [3, 8] (fun s i => ∃ (k : Nat) (v : Int), k ≤ xs.length ∧ i = .int .i64 k ∧ s = .int .i64 v ∧ -1000 * (k : Int) ≤ v ∧ v ≤ 1000 * (k : Int) ∧ Hid (balGo 0 0 xs = balGo k v (xs.drop k))) (fun _ i => xs.length - (intOf i).toNat)
  case atStart => exact ⟨0, 0, Nat.zero_le _, rfl, rfl, by simp, by simp, rfl⟩
  case round =>
    obtain ⟨k, v, hk, rfl, rfl, b1, b2, H⟩ := hrel
    by_cases hlt : k < xs.length
    · obtain ⟨b, off, x, rfl, hb, HX, hc, hm⟩ := h.at_ hlt
      obtain ⟨x1, x2⟩ := hx x hm
      clear hx hm
      by_cases hp : k % 2 = 0
      · have HP := Lib.hid hp; clear hp
        have hpk : (((k : Int) % 2) == 0) = true := by have := HP.out; simp; omega
        go_wp2
        go_round
        case rel => exact ⟨k + 1, v + x, by omega, by go_num, rfl, by omega, by omega, H.out.trans (by rw [HX.out, balGo, if_pos HP.out])⟩
        case measure => simp [intOf]; omega
      · have HP := Lib.hid hp; clear hp
        have hpk : (((k : Int) % 2) == 0) = false := by have := HP.out; simp; omega
        go_wp2
        go_round
        case rel => exact ⟨k + 1, v - x, by omega, by go_num, rfl, by omega, by omega, H.out.trans (by rw [HX.out, balGo, if_neg HP.out])⟩
        case measure => simp [intOf]; omega
    · go_wp2
      go_ret
      refine ⟨ret_bool ?_, rfl⟩
      have e : xs.drop k = [] := List.drop_of_length_le (by omega)
      unfold balB
      rw [H.out, e, balGo, Bool.eq_iff_iff]; simp
set_option maxHeartbeats 400000 in
theorem impl_AnglesValid (A : Option Addr) (cap : Nat) (xs : List Int) (w : World) (h : Ints w A xs) (hl : xs.length ≤ maxLen) :
    Calls Tryz.prog 129 #[.slice A xs.length cap] w fun e w' => e = .returned (.bool (avB xs)) ∧ w = w' := by
  unfold maxLen at hl
  by_cases g1 : xs.length < 2
  · have d1 : decide ((xs.length : Int) < 2) = true := by simp; omega
    go_enter Tryz.func129, Tryz.ntmps129
    go_wp2
    go_ret
    exact ⟨ret_bool (by unfold avB; simp; omega), rfl⟩
  · have d1 : decide ((xs.length : Int) < 2) = false := by simp; omega
    by_cases g2 : 10 < xs.length
    · have d2 : decide ((10 : Int) < (xs.length : Int)) = true := by simp; omega
      go_enter Tryz.func129, Tryz.ntmps129
      go_wp2
      go_ret
      exact ⟨ret_bool (by unfold avB; simp; omega), rfl⟩
    · have d2 : decide ((10 : Int) < (xs.length : Int)) = false := by simp; omega
      by_cases g3 : xs.length % 2 = 0
      · have d3 : (((xs.length : Int) % 2) != 0) = false := by simp; omega
        have G := Lib.hid (avB_go g3 (by omega) (by omega))
        clear g3
        go_enter Tryz.func129, Tryz.ntmps129
        go_wp2
        go_loop [4, 22] (fun s i => ∃ (k : Nat) (v : Int), k ≤ xs.length ∧ i = .int .i64 k ∧ s = .int .i64 v ∧ 0 ≤ v ∧ v ≤ 360 * (k : Int) ∧ Hid (avB xs = avGo v (xs.drop k))) (fun _ i => xs.length - (intOf i).toNat)
        case atStart => exact ⟨0, 0, Nat.zero_le _, rfl, rfl, by omega, by omega, G.out⟩
        case round =>
          obtain ⟨k, v, hk, rfl, rfl, b1, b2, H⟩ := hrel
          by_cases hlt : k < xs.length
          · obtain ⟨b, off, x, rfl, hb, HX, hc, hm⟩ := h.at_ hlt
            clear hm
            by_cases t1 : x < 1
            · have e1 : decide (x < 1) = true := by simp; omega
              go_wp2
              go_ret
              exact ⟨ret_bool (by rw [H.out, HX.out, avGo, if_pos t1]), rfl⟩
            · have e1 : decide (x < 1) = false := by simp; omega
              by_cases t2 : 360 < x
              · have e2 : decide ((360 : Int) < x) = true := by simp; omega
                go_wp2
                go_ret
                exact ⟨ret_bool (by rw [H.out, HX.out, avGo, if_neg (by omega), if_pos t2]), rfl⟩
              · have e2 : decide ((360 : Int) < x) = false := by simp; omega
                go_wp2
                go_round
                case rel => exact ⟨k + 1, v + x, by omega, by go_num, rfl, by omega, by omega, H.out.trans (by rw [HX.out, avGo, if_neg (by omega), if_neg (by omega)])⟩
                case measure => simp [intOf]; omega
          · go_wp2
            go_ret
            have e : xs.drop k = [] := List.drop_of_length_le (by omega)
            exact ⟨ret_bool (by rw [H.out, e, avGo, Bool.eq_iff_iff]; simp), rfl⟩
      · have d3 : (((xs.length : Int) % 2) != 0) = true := by rw [bne_iff_ne]; omega
        have G := Lib.hid g3
        clear g3
        go_enter Tryz.func129, Tryz.ntmps129
        go_wp2
        go_ret
        exact ⟨ret_bool (by have := G.out; unfold avB; simp; omega), rfl⟩
set_option maxHeartbeats 400000 in
theorem impl_AnglesCloses (A : Option Addr) (cap : Nat) (xs : List Int) (w : World) (h : Ints w A xs) (hl : xs.length ≤ maxLen) :
    Calls Tryz.prog 152 #[.slice A xs.length cap] w fun e w' => e = .returned (.bool (acB xs)) ∧ w = w' := by
  cases hv : avB xs with
  | false =>
    have HV := Lib.hid hv; clear hv
    go_enter Tryz.func152, Tryz.ntmps152
    go_wp2_with fail
    refine (impl_AnglesValid A cap xs w h hl).mono ?_
    rintro e w' ⟨rfl, rfl⟩
    rw [HV.out]
    go_wp2
    go_ret
    exact ⟨ret_bool (by unfold acB; rw [HV.out]; rfl), rfl⟩
  | true =>
    obtain ⟨_, _, h10, hx, _⟩ := avB_parts hv
    have HV := Lib.hid hv; clear hv
    have HX := Lib.hid hx; clear hx
    go_enter Tryz.func152, Tryz.ntmps152
    go_wp2_with fail
    refine (impl_AnglesValid A cap xs w h hl).mono ?_
    rintro e w' ⟨rfl, rfl⟩
    rw [HV.out]
    go_wp2_with fail
    refine (impl_balanced A cap xs w h (by omega) (fun x hx => by have := HX.out x hx; omega)).mono ?_
    rintro e w' ⟨rfl, rfl⟩
    go_wp2
    go_ret
    exact ⟨ret_bool (by unfold acB; rw [HV.out]; rfl), rfl⟩
end Go.Proofs.YtkdlipbegdiaaaaGreatDoor
