/- A range over an iterator that hands out lists one after the other, and whose rounds all go on: the iterator's word and the loop's. No program, no condition. The folds of a ring that some order of layers has are those that crimp down. No condition. Append to rows of the reference's folds and to rows of rows of numbers. No condition but sizes. -/
import Derived.Test.YtkdlipbegdiaaaaGreatDoorEzBP2
import Derived.RangeFuncNested
import Derived.RangeFuncBound
import Derived.RangeFuncLeaves
import Derived.Test.YtkdlipbegdiaaaaGreatDoorEzBP1
import Derived.Test.YtkdlipbegdiaaaaGreatDoorEzBP7
import Derived.Test.YtkdlipbegdiaaaaGreatDoorEzBP8
namespace Go.Proofs.YtkdlipbegdiaaaaGreatDoor
open Go.RowKit
/-- from block H on all lies as it lay -/
def Kept (H : Nat) (X X' : World) : Prop := X.heap.size ≤ X'.heap.size ∧ ∀ i, H ≤ i → i < X.heap.size → X'.heap[i]? = X.heap[i]?
theorem Kept.refl (H : Nat) (X : World) : Kept H X X := ⟨Nat.le_refl _, fun _ _ _ => rfl⟩
theorem Kept.trans {H : Nat} {X Y Z : World} (h : Kept H X Y) (k : Kept H Y Z) : Kept H X Z :=
  ⟨Nat.le_trans h.1 k.1, fun i h1 h2 => (k.2 i h1 (Nat.lt_of_lt_of_le h2 h.1)).trans (h.2 i h1 h2)⟩
theorem Kept.mono {H H' : Nat} {X Y : World} (h : Kept H X Y) (hH : H ≤ H') : Kept H' X Y := ⟨h.1, fun i h1 h2 => h.2 i (Nat.le_trans hH h1) h2⟩
theorem Kept.below {H : Nat} {X Y : World} (h : Below X.heap.size X Y) : Kept H X Y := ⟨h.size, fun i _ h2 => h.block i h2⟩
/-- what the iterator is told of its rounds: each goes on, and leaves the iterator's own blocks alone -/
def RoundsL (F : Fence) (P : Program) (l H : Nat) (LL : List (List Int)) (J : Nat → World → Prop) : Prop :=
  ∀ (m k : Nat) (L : List Int) (X : World) (A : Option Addr) (cap : Nat), LL[k]? = some L → J k X → Ints X A L → (∀ a, A = some a → H ≤ a.block) → L.length ≤ cap → cap ≤ maxLen →
    YieldAt F m P l #[.slice A L.length cap] X fun e X' => e = .returned (.bool true) ∧ J (k + 1) X' ∧ Kept H X X'
/-- what the iterator does: it hands out the lists, one after the other -/
def GivesL (F : Fence) (P : Program) (gf : Nat) (lb : Array Value) (LL : List (List Int)) (C : World → Prop) : Prop :=
  ∀ (m l : Nat) (J : Nat → World → Prop) (W : World), (∀ k X, J k X → C X) → (∀ k X Y, J k X → Below W.heap.size X Y → J k Y) → (∀ k X, J k X → W.heap.size ≤ X.heap.size) →
    RoundsL F P l W.heap.size LL J → J 0 W → CallsIn F m P gf (#[.func (.yield l) #[] #[]] ++ lb) W fun e W' => (∃ v, e = .returned v) ∧ J LL.length W'
variable {F : Fence} {n : Nat} {P : Program}
theorem below_put {B l : Nat} {X : World} {o : Obj} (h : B ≤ l) : Below B X (X.putObj l o) :=
  ⟨rfl, rfl, rfl, by simp, fun i hi => World.putObj_heap_other (by omega)⟩
/-- a range over such an iterator -/
theorem wp_rangeL {g : Operand} {ps : Array Tmp} {assign body : Code} {Q : Exit → Act → World → Prop} {a : Act} {w : World}
    (hro : F.round = none) (hd : F.depth = none) {gf : Nat} {lb : Array Value} (hg : a.eval g = .func (.func gf) #[] lb) (hFg : F.fn gf) (eg : ∀ args w, (callFunc gf args).run P w = .ok (.enter gf args) w)
    {LL : List (List Int)} {C : World → Prop} (hseq : GivesL F P gf lb LL C) (hps : ps.size = 1)
    (J : Nat → World → Prop) (hJC : ∀ k X, J k X → C X) (hJ : ∀ k X Y, J k X → Below w.heap.size X Y → J k Y) (h0 : J 0 w) (a₁ : Option Addr → Nat → Nat → Act)
    (hassign : ∀ (l m : Nat) (A : Option Addr) (len cap : Nat) (W : World) (K : Act → World → Prop), K (a₁ A len cap) W →
      assign.wpIn (F.inRound l) m P (Exit.then K (fun _ _ _ => False)) { tmps := (ps.zip #[Value.slice A len cap]).foldl (fun t (p, v) => t.setIfInBounds p v) a.tmps, defers := [] } W)
    (hbody : ∀ (l m k : Nat) (L : List Int) (A : Option Addr) (cap : Nat) (X : World), w.heap.size + 2 ≤ X.heap.size → LL[k]? = some L → J k X → Ints X A L → (∀ a, A = some a → w.heap.size + 2 ≤ a.block) → L.length ≤ cap → cap ≤ maxLen →
      body.wpIn (F.inRound l) m P (fun e _ X' => e = .normal ∧ J (k + 1) X' ∧ Kept w.heap.size X X') (a₁ A L.length cap) X)
    (hdone : ∀ (D : Nat) (W : World), w.heap.size ≤ D → J LL.length W → W.heap[D]? = some (.deferred (some [])) → Q .normal { a with defers := { target := .collected D, args := #[] } :: a.defers } W) :
    (Code.rangeFunc g ps assign body).wpIn F n P Q a w := by
  refine wpIn_rangeFunc fun fn hfn => ?_
  rw [hro]
  obtain ⟨rc, hrc⟩ : ∃ rc : LoopState → Loop, rc = fun st => { state := st, pending := none, fn, tmps := a.tmps, params := ps, assign, body, defers := w.heap.size } := ⟨_, rfl⟩
  obtain ⟨l, hl⟩ : ∃ l, l = w.heap.size + 1 := ⟨_, rfl⟩
  obtain ⟨W1, hW1⟩ : ∃ W1, W1 = (w.alloc (.deferred (some []))).alloc (.loop (rc .ready)) := ⟨_, rfl⟩
  have hz1 : W1.heap.size = w.heap.size + 2 := by rw [hW1]; simp
  have hb1 : Below w.heap.size w W1 := by rw [hW1]; exact ((Below.refl _ w).alloc (Nat.le_refl _) _).alloc (by simp) _
  have hl1 : W1.heap[l]? = some (.loop (rc .ready)) := by
    have := World.alloc_heap_new (w.alloc (.deferred (some []))) (.loop (rc .ready))
    rw [hW1, hl]; rwa [World.size_alloc] at this
  have hk1 : W1.heap[w.heap.size]? = some (.deferred (some [])) := by
    rw [hW1]; exact (Below.heap_alloc _ _ _ (by simp)).trans (World.alloc_heap_new w _)
  have hent : (Instr.enterLoop fn a.tmps ps assign body none).run P w = .ok (l, [{ target := .collected w.heap.size, args := #[] }]) W1 := by
    rw [run_enterLoop_outer, hW1, hrc, hl]
  refine ⟨l, _, W1, { target := .fn (.func gf) lb, args := #[.func (.yield l) #[] #[]] }, W1, gf, #[.func (.yield l) #[] #[]] ++ lb, W1, hent, ?_, ?_, ?_, (fun h => by rw [hd] at h; cases h), ?_⟩
  · simp only [resolve, hg]
    simp [go_sem]
  · intro f' hf'; simp [Target.leads] at hf'; subst hf'; exact hFg
  · simp [invoke, go_sem, eg]
  · refine (hseq (n - 1) l (fun k W => J k W ∧ W.heap[l]? = some (.loop (rc .ready)) ∧ W.heap[w.heap.size]? = some (.deferred (some []))) W1 (fun k X h => hJC k X h.1) ?_ ?_ ?_ ⟨hJ 0 w W1 h0 hb1, hl1, hk1⟩).mono ?_
    · rintro k X Y ⟨h1, h2, h3⟩ hb
      exact ⟨hJ k X Y h1 (hb.mono (by omega)), (hb.block l (by omega)).trans h2, (hb.block _ (by omega)).trans h3⟩
    · rintro k X ⟨_, h2, _⟩
      have := (Array.getElem?_eq_some_iff.1 h2).1
      omega
    · rintro m k L X A cap hL ⟨hj, hlX, hkX⟩ hI hA hc hm
      have hlt : l < X.heap.size := (Array.getElem?_eq_some_iff.1 hlX).1
      have hy := run_yield (P := P) (args := #[Value.slice A L.length cap]) hlX (by rw [hrc]; simp [hps])
      rw [hrc] at hy
      refine ⟨fn, _, assign, body, hy, roundIn_of_wpIn hfn (hassign l m A L.length cap X _ ⟨_, run_beginRound hlX (by rw [hrc]), ?_⟩)⟩
      obtain ⟨X2, hX2⟩ : ∃ X2, X2 = X.putObj l (.loop { rc .ready with state := .busy }) := ⟨_, rfl⟩
      have hl2 : X2.heap[l]? = some (.loop { rc .ready with state := .busy }) := by rw [hX2]; exact World.putObj_heap_same hlt
      have hz2 : X2.heap.size = X.heap.size := by rw [hX2]; simp
      have hs2 : ∀ i, i ≠ l → X2.heap[i]? = X.heap[i]? := fun i hi => by rw [hX2]; exact World.putObj_heap_other hi
      have hj2 : J k X2 := by rw [hX2]; exact hJ k X _ hj (below_put (by omega))
      have hI2 : Ints X2 A L := by
        intro hne
        obtain ⟨b, off, e, hb, hcell⟩ := hI hne
        refine ⟨b, off, e, by omega, fun j u hj => ?_⟩
        have hx := hcell j u hj
        obtain ⟨o, ho, hoc⟩ := cells_of_cell hx
        have hbl : b ≠ l := by
          intro eb
          subst eb
          rw [hlX] at ho
          cases ho
          cases hoc
        exact (World.cell?_of_block (hs2 b hbl)).trans hx
      rw [← hX2]
      refine wpIn_mono (hbody l m k L A cap X2 (by omega) hL hj2 hI2 (fun a e => by have := hA a e; omega) hc hm) ?_
      rintro e a3 X3 ⟨rfl, hj3, hk3⟩
      have hl3 : X3.heap[l]? = some (.loop { rc .ready with state := .busy }) := (hk3.2 l (by omega) (by omega)).trans hl2
      have hlt3 : l < X3.heap.size := (Array.getElem?_eq_some_iff.1 hl3).1
      have hr := run_endRound (P := P) none hl3
      have hrec : ({ (rc .ready : Loop) with state := .ready, pending := none } : Loop) = rc .ready := by rw [hrc]
      refine ⟨.bool true, X3.putObj l (.loop (rc .ready)), ?_, rfl, ⟨hJ _ X3 _ hj3 (below_put (by omega)), World.putObj_heap_same hlt3, ?_⟩, ?_, ?_⟩
      · rw [← hrec]; exact hr
      · rw [World.putObj_heap_other (by omega), hk3.2 _ (Nat.le_refl _) (by omega), hs2 _ (by omega)]
        exact hkX
      · have := hk3.1; simp; omega
      · intro i h1 h2
        rw [World.putObj_heap_other (by omega), hk3.2 i (by omega) (by omega), hs2 i (by omega)]
    · rintro e W2 ⟨⟨v, rfl⟩, hj, hl2, hk2⟩
      have hlt2 : l < W2.heap.size := (Array.getElem?_eq_some_iff.1 hl2).1
      refine ⟨none, W2.putObj l (.loop { rc .ready with state := .exhausted }), ?_, ?_⟩
      · have := run_endLoop (P := P) hl2 (by rw [hrc]; simp)
        rw [this, hrc]
      · exact hdone w.heap.size _ (Nat.le_refl _) (hJ _ W2 _ hj (below_put (by omega))) ((World.putObj_heap_other (by omega)).trans hk2)
end Go.Proofs.YtkdlipbegdiaaaaGreatDoor
namespace Go.Proofs.YtkdlipbegdiaaaaGreatDoor
structure Tab (n : Nat) (ps : List (List Nat)) (tab : List Ent) : Prop where
  ok : tab.all (entOk n ps) = true
  pats : patsOk n tab = true
  rot : chkR n tab = true
end Go.Proofs.YtkdlipbegdiaaaaGreatDoor
namespace Go.Proofs.YtkdlipbegdiaaaaGreatDoor
open Go.RowKit
theorem Tryz.infoLf : (Tryz.prog.info? 90).map (fun i => (i.zero, i.size, i.bytes)) = some (some (.agg #[.int .i64 0, .int .i64 0, .int .i64 0, .int .u8 0]), 4, 32) := by kernel_rfl
/-- a row of the call's own -/
abbrev OwnL (w : World) (B : Nat) (v : Value) (n : Nat) (L : List Value) : Prop := w.ownsRow B 90 4 v n L
set_option maxRecDepth 100000 in
theorem run_appL (W : World) (B : Nat) (ty : TypeId) (v : Value) (n : Nat) (L : List Value) (A : Option Addr) (m c : Nat) (news : List Value) (hown : OwnL W B v n L) (hl : news.length = m * 4)
    (hA : A = none → m = 0) (hnews : ∀ a, A = some a → ∀ j u, news[j]? = some u → W.cell? (a.add j) = some u) (h1 : ∀ u ∈ news, u.oneCell' = true) (hB : B ≤ W.heap.size) (hn : n + m ≤ 1000000000000) :
    ∃ v' w', (Builtin.append_ #[87, 87] ty #[v, .slice A m c]).run Tryz.prog W = .ok v' w' ∧ OwnL w' B v' (n + m) (L ++ news) ∧ W.grownBy w' v.ownBlock ∧ Below B W w' ∧ MovedX W v v' ∧
      (∀ g cap, v = .slice (some ⟨g, 0, none⟩) n cap → n + m ≤ cap → v' = .slice (some ⟨g, 0, none⟩) (n + m) cap) := by
  obtain ⟨i0, hi, hz0, hz1, hz2⟩ := info_parts Tryz.infoLf
  cases A with
  | none =>
    have hm := hA rfl
    subst hm
    have hnil : news = [] := List.eq_nil_of_length_eq_zero (by omega)
    subst hnil
    refine ⟨v, W, run_app_nil W B _ ty _ i0 4 Tryz.underlying87 hi v _ _ hown c, by simpa using hown, World.grownBy.refl W _, Below.refl _ _, Or.inl rfl, fun g cap e _ => by simpa using e⟩
  | some ad =>
    have hnews' := hnews ad rfl
    obtain ⟨v', w', hrun, h2, h3, _⟩ := run_append_own (P := Tryz.prog) W B 87 ty 90 i0 (.agg #[.int .i64 0, .int .i64 0, .int .i64 0, .int .u8 0]) 4 32 Tryz.underlying87 hi hz0 hz1 hz2 rfl (by decide) v _ _ hown ad m c news hl hnews' h1 (by unfold maxLen; omega) (by omega) hB
    have hroom : ∀ g cap, v = .slice (some ⟨g, 0, none⟩) n cap → n + m ≤ cap → v' = .slice (some ⟨g, 0, none⟩) (n + m) cap := by
      intro g cap hv hr
      rcases hown.2 with ⟨e, _⟩ | ⟨g', cap', cur, e, hb, hg, hnc, hcm, hcs, htake⟩
      · rw [hv] at e; cases e
      · rw [hv] at e
        injection e with e1 e2 e3
        injection e1 with e1
        injection e1 with e1
        subst e1 e3
        subst hv
        have hcl : ∀ j, j < news.length → n * 4 + j < cur.size := by intro j hj; omega
        have hrun2 := run_append_room_cells (P := Tryz.prog) W 87 ty 90 i0 Tryz.underlying87 hi g 0 n cap ad m c news (by rw [hz1]; exact hl) hnews' h1 hr
          (by intro j hj
              rw [hz1, cell_of_row W g _ cur 90 (0, 0) hg, Nat.zero_add, Array.getElem?_eq_getElem (hcl j hj)]; rfl) (by intro j _; simp [World.frozen?, hg])
        rw [hrun2] at hrun
        exact ((Result.ok.injEq _ _ _ _ ▸ hrun).1).symm
    refine ⟨v', w', hrun, h2, h3, (Below.refl _ _).grown h3 hB fun k hk => (hown.lt k hk).1, ?_, hroom⟩
    rcases hown.2 with ⟨e, h0⟩ | ⟨g, cap, cur, e, hb, hg, hnc, hcm, hcs, htake⟩
    · right
      have hx0 : L = [] := List.eq_nil_of_length_eq_zero (by rw [hown.1, h0])
      subst e h0 hx0
      obtain ⟨v2, w2, hrun2, h22, _, _⟩ := run_append_own (P := Tryz.prog) W W.heap.size 87 ty 90 i0 (.agg #[.int .i64 0, .int .i64 0, .int .i64 0, .int .u8 0]) 4 32 Tryz.underlying87 hi hz0 hz1 hz2 rfl (by decide) (.slice none 0 0) 0 [] ⟨rfl, Or.inl ⟨rfl, rfl⟩⟩ ad m c news hl hnews' h1 (by unfold maxLen; omega) (by omega) (Nat.le_refl _)
      rw [hrun2] at hrun
      injection hrun with e1 e2
      subst e1 e2
      exact fun g hg => (h22.lt g hg).1
    · by_cases hr : n + m ≤ cap
      · left
        rw [hroom g cap e hr, e]; rfl
      · right
        subst e
        obtain ⟨v2, w2, hrun2, hown2, _⟩ := run_append_arg_grows (P := Tryz.prog) W 87 ty 90 i0 (.agg #[.int .i64 0, .int .i64 0, .int .i64 0, .int .u8 0]) 4 32 Tryz.underlying87 hi hz0 hz1 hz2 rfl (by decide) ⟨g, 0, none⟩ n cap L hown.1
          (fun j u hj => hown.cells (g := g) rfl j u hj) ad m c news hl hnews' (by omega) (by unfold maxLen; omega) (by omega)
        rw [hrun2] at hrun
        injection hrun with e1 e2
        subst e1 e2
        exact fun q hq => (hown2.lt q hq).1
theorem wp_appL {o : Oper} {a : Act} {W : World} {K : Act → World → Prop} {Q : Exit → Act → World → Prop} (s x : Operand)
    (ho : o.op = .call { callee := .builtin .append, args := #[s, x], argTypes := #[87, 87] })
    (B : Nat) (v : Value) (n : Nat) (L : List Value) (A : Option Addr) (m c : Nat) (news : List Value) (hs : a.eval s = v) (hx : a.eval x = .slice A m c) (hown : OwnL W B v n L) (hl : news.length = m * 4)
    (hA : A = none → m = 0) (hnews : ∀ a, A = some a → ∀ j u, news[j]? = some u → W.cell? (a.add j) = some u) (h1 : ∀ u ∈ news, u.oneCell' = true) (hB : B ≤ W.heap.size) (hn : n + m ≤ 1000000000000)
    (h : ∀ v' w', OwnL w' B v' (n + m) (L ++ news) → W.grownBy w' v.ownBlock → Below B W w' → MovedX W v v' → (∀ g cap, v = .slice (some ⟨g, 0, none⟩) n cap → n + m ≤ cap → v' = .slice (some ⟨g, 0, none⟩) (n + m) cap) → K (a.put o.dst v') w') : o.wp Tryz.prog a W K Q := by
  obtain ⟨v', w', hrun, h2, h3, h4, h5, h6⟩ := run_appL W B o.type v n L A m c news hown hl hA hnews h1 hB hn
  unfold Oper.wp execOp
  simp only [ho, resolve, invoke, builtin, Sem.run_bind, Sem.run_pure, Result.andThen_ok, List.map_toArray, List.map_cons, List.map_nil, hs, hx, hrun]
  exact h v' w' h2 h3 h4 h5 h6
theorem step_appL {ops : Array Oper} {o : Oper} {a : Act} {W : World} {K : Act → World → Prop} {Q : Exit → Act → World → Prop} {E : Prop} (hgd : o.guard = none) (s x : Operand)
    (ho : o.op = .call { callee := .builtin .append, args := #[s, x], argTypes := #[87, 87] })
    (B : Nat) (v : Value) (n : Nat) (L : List Value) (A : Option Addr) (m c : Nat) (news : List Value) (hs : a.eval s = v) (hx : a.eval x = .slice A m c) (hown : OwnL W B v n L) (hl : news.length = m * 4)
    (hA : A = none → m = 0) (hnews : ∀ a, A = some a → ∀ j u, news[j]? = some u → W.cell? (a.add j) = some u) (h1 : ∀ u ∈ news, u.oneCell' = true) (hB : B ≤ W.heap.size) (hn : n + m ≤ 1000000000000)
    (h : ∀ v' w', OwnL w' B v' (n + m) (L ++ news) → W.grownBy w' v.ownBlock → Below B W w' → MovedX W v v' → (∀ g cap, v = .slice (some ⟨g, 0, none⟩) n cap → n + m ≤ cap → v' = .slice (some ⟨g, 0, none⟩) (n + m) cap) → K (a.put o.dst v') w') :
    if Region.wanted o (yielded ops a.tmps) = true then Oper.wp Tryz.prog o a W K Q else E := by
  have hw : Region.wanted o (yielded ops a.tmps) = true := by simp [Region.wanted, hgd]
  rw [if_pos hw]
  exact wp_appL s x ho B v n L A m c news hs hx hown hl hA hnews h1 hB hn h
theorem Tryz.infoWl : (Tryz.prog.info? 23).map (fun i => (i.zero, i.size, i.bytes)) = some (some (.slice none 0 0), 1, 24) := by kernel_rfl
/-- a row of the call's own -/
abbrev OwnW (w : World) (B : Nat) (v : Value) (n : Nat) (L : List Value) : Prop := w.ownsRow B 23 1 v n L
set_option maxRecDepth 100000 in
theorem run_appW (W : World) (B : Nat) (ty : TypeId) (v : Value) (n : Nat) (L : List Value) (A : Option Addr) (m c : Nat) (news : List Value) (hown : OwnW W B v n L) (hl : news.length = m * 1)
    (hA : A = none → m = 0) (hnews : ∀ a, A = some a → ∀ j u, news[j]? = some u → W.cell? (a.add j) = some u) (h1 : ∀ u ∈ news, u.oneCell' = true) (hB : B ≤ W.heap.size) (hn : n + m ≤ 1000000000000) :
    ∃ v' w', (Builtin.append_ #[41, 41] ty #[v, .slice A m c]).run Tryz.prog W = .ok v' w' ∧ OwnW w' B v' (n + m) (L ++ news) ∧ W.grownBy w' v.ownBlock ∧ Below B W w' ∧ MovedX W v v' ∧
      (∀ g cap, v = .slice (some ⟨g, 0, none⟩) n cap → n + m ≤ cap → v' = .slice (some ⟨g, 0, none⟩) (n + m) cap) := by
  obtain ⟨i0, hi, hz0, hz1, hz2⟩ := info_parts Tryz.infoWl
  cases A with
  | none =>
    have hm := hA rfl
    subst hm
    have hnil : news = [] := List.eq_nil_of_length_eq_zero (by omega)
    subst hnil
    refine ⟨v, W, run_app_nil W B _ ty _ i0 1 Tryz.underlying41 hi v _ _ hown c, by simpa using hown, World.grownBy.refl W _, Below.refl _ _, Or.inl rfl, fun g cap e _ => by simpa using e⟩
  | some ad =>
    have hnews' := hnews ad rfl
    obtain ⟨v', w', hrun, h2, h3, _⟩ := run_append_own (P := Tryz.prog) W B 41 ty 23 i0 (.slice none 0 0) 1 24 Tryz.underlying41 hi hz0 hz1 hz2 rfl (by decide) v _ _ hown ad m c news hl hnews' h1 (by unfold maxLen; omega) (by omega) hB
    have hroom : ∀ g cap, v = .slice (some ⟨g, 0, none⟩) n cap → n + m ≤ cap → v' = .slice (some ⟨g, 0, none⟩) (n + m) cap := by
      intro g cap hv hr
      rcases hown.2 with ⟨e, _⟩ | ⟨g', cap', cur, e, hb, hg, hnc, hcm, hcs, htake⟩
      · rw [hv] at e; cases e
      · rw [hv] at e
        injection e with e1 e2 e3
        injection e1 with e1
        injection e1 with e1
        subst e1 e3
        subst hv
        have hcl : ∀ j, j < news.length → n * 1 + j < cur.size := by intro j hj; omega
        have hrun2 := run_append_room_cells (P := Tryz.prog) W 41 ty 23 i0 Tryz.underlying41 hi g 0 n cap ad m c news (by rw [hz1]; exact hl) hnews' h1 hr
          (by intro j hj
              rw [hz1, cell_of_row W g _ cur 23 (0, 0) hg, Nat.zero_add, Array.getElem?_eq_getElem (hcl j hj)]; rfl) (by intro j _; simp [World.frozen?, hg])
        rw [hrun2] at hrun
        exact ((Result.ok.injEq _ _ _ _ ▸ hrun).1).symm
    refine ⟨v', w', hrun, h2, h3, (Below.refl _ _).grown h3 hB fun k hk => (hown.lt k hk).1, ?_, hroom⟩
    rcases hown.2 with ⟨e, h0⟩ | ⟨g, cap, cur, e, hb, hg, hnc, hcm, hcs, htake⟩
    · right
      have hx0 : L = [] := List.eq_nil_of_length_eq_zero (by rw [hown.1, h0])
      subst e h0 hx0
      obtain ⟨v2, w2, hrun2, h22, _, _⟩ := run_append_own (P := Tryz.prog) W W.heap.size 41 ty 23 i0 (.slice none 0 0) 1 24 Tryz.underlying41 hi hz0 hz1 hz2 rfl (by decide) (.slice none 0 0) 0 [] ⟨rfl, Or.inl ⟨rfl, rfl⟩⟩ ad m c news hl hnews' h1 (by unfold maxLen; omega) (by omega) (Nat.le_refl _)
      rw [hrun2] at hrun
      injection hrun with e1 e2
      subst e1 e2
      exact fun g hg => (h22.lt g hg).1
    · by_cases hr : n + m ≤ cap
      · left
        rw [hroom g cap e hr, e]; rfl
      · right
        subst e
        obtain ⟨v2, w2, hrun2, hown2, _⟩ := run_append_arg_grows (P := Tryz.prog) W 41 ty 23 i0 (.slice none 0 0) 1 24 Tryz.underlying41 hi hz0 hz1 hz2 rfl (by decide) ⟨g, 0, none⟩ n cap L hown.1
          (fun j u hj => hown.cells (g := g) rfl j u hj) ad m c news hl hnews' (by omega) (by unfold maxLen; omega) (by omega)
        rw [hrun2] at hrun
        injection hrun with e1 e2
        subst e1 e2
        exact fun q hq => (hown2.lt q hq).1
theorem wp_appW {o : Oper} {a : Act} {W : World} {K : Act → World → Prop} {Q : Exit → Act → World → Prop} (s x : Operand)
    (ho : o.op = .call { callee := .builtin .append, args := #[s, x], argTypes := #[41, 41] })
    (B : Nat) (v : Value) (n : Nat) (L : List Value) (A : Option Addr) (m c : Nat) (news : List Value) (hs : a.eval s = v) (hx : a.eval x = .slice A m c) (hown : OwnW W B v n L) (hl : news.length = m * 1)
    (hA : A = none → m = 0) (hnews : ∀ a, A = some a → ∀ j u, news[j]? = some u → W.cell? (a.add j) = some u) (h1 : ∀ u ∈ news, u.oneCell' = true) (hB : B ≤ W.heap.size) (hn : n + m ≤ 1000000000000)
    (h : ∀ v' w', OwnW w' B v' (n + m) (L ++ news) → W.grownBy w' v.ownBlock → Below B W w' → MovedX W v v' → (∀ g cap, v = .slice (some ⟨g, 0, none⟩) n cap → n + m ≤ cap → v' = .slice (some ⟨g, 0, none⟩) (n + m) cap) → K (a.put o.dst v') w') : o.wp Tryz.prog a W K Q := by
  obtain ⟨v', w', hrun, h2, h3, h4, h5, h6⟩ := run_appW W B o.type v n L A m c news hown hl hA hnews h1 hB hn
  unfold Oper.wp execOp
  simp only [ho, resolve, invoke, builtin, Sem.run_bind, Sem.run_pure, Result.andThen_ok, List.map_toArray, List.map_cons, List.map_nil, hs, hx, hrun]
  exact h v' w' h2 h3 h4 h5 h6
theorem wpList_appW {ops : Array Oper} {rest : List Oper} {o : Oper} {a : Act} {W : World} {Q : Exit → Act → World → Prop} (hgd : o.guard = none) (s x : Operand)
    (ho : o.op = .call { callee := .builtin .append, args := #[s, x], argTypes := #[41, 41] })
    (B : Nat) (v : Value) (n : Nat) (L : List Value) (A : Option Addr) (m c : Nat) (news : List Value) (hs : a.eval s = v) (hx : a.eval x = .slice A m c) (hown : OwnW W B v n L) (hl : news.length = m * 1)
    (hA : A = none → m = 0) (hnews : ∀ a, A = some a → ∀ j u, news[j]? = some u → W.cell? (a.add j) = some u) (h1 : ∀ u ∈ news, u.oneCell' = true) (hB : B ≤ W.heap.size) (hn : n + m ≤ 1000000000000)
    (h : ∀ v' w', OwnW w' B v' (n + m) (L ++ news) → W.grownBy w' v.ownBlock → Below B W w' → MovedX W v v' → (∀ g cap, v = .slice (some ⟨g, 0, none⟩) n cap → n + m ≤ cap → v' = .slice (some ⟨g, 0, none⟩) (n + m) cap) → wpList Tryz.prog ops Q rest (a.put o.dst v') w') : wpList Tryz.prog ops Q (o :: rest) a W :=
  wpList_plain hgd fun _ hK => wp_appW s x ho B v n L A m c news hs hx hown hl hA hnews h1 hB hn fun v' w' h2 h3 h4 h5 h6 => hK _ _ (h v' w' h2 h3 h4 h5 h6)
end Go.Proofs.YtkdlipbegdiaaaaGreatDoor
