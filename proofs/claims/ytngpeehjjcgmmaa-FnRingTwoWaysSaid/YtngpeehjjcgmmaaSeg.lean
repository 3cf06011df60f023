/- A slice of integers anywhere in a block that the call made: its tail, one element more. No condition. -/
import Derived.ArgAppend
import Derived.Test.YtngpeehjjcgmmaaApp
namespace Go.Proofs.Ytngpeehjjcgmmaa
open Go.RowKit

/-- the integers xs lie from off on in block g, which the call made and which has room for cap -/
structure Seg (w : World) (B : Nat) (g off cap : Nat) (xs : List Int) (cur : Array Value) : Prop where
  lo : B ≤ g
  blk : Blk w g 3 cur
  size : off + cap ≤ cur.size
  le : xs.length ≤ cap
  max : cap ≤ maxLen
  at_ : ∀ j x, xs[j]? = some x → cur[off + j]? = some (.int .i64 x)

theorem Seg.ints {w : World} {B g off cap : Nat} {xs : List Int} {cur : Array Value} (h : Seg w B g off cap xs cur) : Ints w (some ⟨g, off, none⟩) xs :=
  fun _ => ⟨g, off, rfl, h.blk.lt, fun k x hk => (h.blk.cell (off + k)).trans (h.at_ k x hk)⟩
theorem Seg.of_own {w : World} {B : Nat} {v : Value} {xs : List Int} (h : Own w B v xs) (h0 : 0 < xs.length) : ∃ g cap cur, v = .slice (some ⟨g, 0, none⟩) xs.length cap ∧ Seg w B g 0 cap xs cur := by
  rcases h.2 with ⟨_, hz⟩ | ⟨g, cap, cur, hv, hb, hg, hnc, hcm, hcs, htake⟩
  · omega
  · refine ⟨g, cap, cur, hv, hb, hg, by omega, hnc, hcm, fun j x hx => ?_⟩
    have hj : j < xs.length := (List.getElem?_eq_some_iff.1 hx).1
    have e : (cur.toList.take (xs.length * 1))[j]? = (xs.map (Value.int .i64))[j]? := by rw [htake]
    rw [List.getElem?_take, if_pos (by omega), List.getElem?_map, hx] at e
    simpa using e
theorem Seg.tail {w : World} {B g off cap : Nat} {x : Int} {xs : List Int} {cur : Array Value} (h : Seg w B g off cap (x :: xs) cur) : Seg w B g (off + 1) (cap - 1) xs cur :=
  ⟨h.lo, h.blk, by have := h.size; have := h.le; simp at this; omega, by have := h.le; simp at this; omega, by have := h.max; omega, fun j y hy => by
    have := h.at_ (j + 1) y (by simpa using hy)
    rwa [show off + 1 + j = off + (j + 1) from by omega]⟩

theorem grown_below {w W w' : World} {row : Option Nat} (h : w.grownBy W row) (k : Below w.heap.size W w') : w.grownBy w' row :=
  ⟨k.os.trans h.os, k.tape.trans h.tape, k.output.trans h.output, Nat.le_trans h.size k.size, fun i hi hr => (k.block i hi).trans (h.block i hi hr)⟩
theorem Seg.grown {w w' : World} {B g off cap : Nat} {xs : List Int} {cur : Array Value} {row : Option Nat} (h : Seg w B g off cap xs cur) (hg : w.grownBy w' row) (hne : some g ≠ row) : Seg w' B g off cap xs cur :=
  ⟨h.lo, h.blk.grown hg hne, h.size, h.le, h.max, h.at_⟩

theorem run_seg (W : World) (B : Nat) (ty : TypeId) (g off cap : Nat) (xs : List Int) (cur : Array Value) (x : Int) (hS : Seg W B g off cap xs cur) (hB : B ≤ W.heap.size) (ad : Addr) (c : Nat) (hx : W.cell? (ad.add 0) = some (.int .i64 x)) (hn : xs.length ≤ 1000000000000) :
    ∃ v' w', (Builtin.append_ #[23, 23] ty #[.slice (some ⟨g, off, none⟩) xs.length cap, .slice (some ad) 1 c]).run Try.prog W = .ok v' w' ∧
      (∃ g' off' cap' cur', v' = .slice (some ⟨g', off', none⟩) (xs.length + 1) cap' ∧ Seg w' B g' off' cap' (xs ++ [x]) cur') ∧ Below B W w' ∧ ∀ j, j < off + xs.length → w'.cell? ⟨g, j, none⟩ = W.cell? ⟨g, j, none⟩ := by
  obtain ⟨i0, hi, hz0, hz1, hz2⟩ := info_parts Try.infoInt
  have hnews : ∀ j u, [Value.int .i64 x][j]? = some u → W.cell? (ad.add j) = some u := by
    intro j u hj
    match j, hj with
    | 0, hj => cases hj; exact hx
  by_cases hr : xs.length + 1 ≤ cap
  · have hsz := hS.size
    have hlt : off + xs.length < cur.size := by omega
    have hcell : (W.cell? ⟨g, off + xs.length, none⟩).isSome = true := by rw [hS.blk.cell, Array.getElem?_eq_getElem hlt]; rfl
    have hrun := run_append_room_cells (P := Try.prog) W 23 ty 3 i0 Try.underlying23 hi g off xs.length cap ad 1 c [.int .i64 x] (by rw [hz1]; rfl) hnews (by intro u hu; simp at hu; subst hu; rfl) hr
      (by intro j hj; rw [hz1]; simp at hj; subst hj; simpa using hcell) (by intro j _; exact hS.blk.frozen _)
    rw [hz1, Nat.mul_one] at hrun
    refine ⟨_, _, hrun, ⟨g, off, cap, cur.setIfInBounds (off + xs.length) (.int .i64 x), rfl, ⟨hS.lo, hS.blk.set_ _ _, by simpa using hsz, by simpa using hr, hS.max, ?_⟩⟩, ?_, ?_⟩
    · intro j y hj
      rw [Array.getElem?_setIfInBounds]
      by_cases hjl : j < xs.length
      · rw [if_neg (by omega)]
        exact hS.at_ j y (by rwa [List.getElem?_append_left hjl] at hj)
      · have : j = xs.length := by
          have := (List.getElem?_eq_some_iff.1 hj).1
          simp at this; omega
        subst this
        rw [if_pos rfl, if_pos hlt]
        simpa using hj
    · exact ⟨rfl, rfl, rfl, by simp [World.setCells], fun k hk => heap_setCell_other W ⟨g, off + xs.length, none⟩ k _ (by have := hS.lo; show k ≠ g; omega)⟩
    · intro j hj
      refine ((hS.blk.set_ (off + xs.length) (.int .i64 x)).cell j).trans ?_
      rw [hS.blk.cell, Array.getElem?_setIfInBounds, if_neg (by omega)]
  · have hI := hS.ints
    obtain ⟨v', w', hrun, hown, hgr⟩ := run_append_arg_grows (P := Try.prog) W 23 ty 3 i0 (.int .i64 0) 1 8 Try.underlying23 hi hz0 hz1 hz2 rfl (by decide) ⟨g, off, none⟩ xs.length cap (xs.map (Value.int .i64)) (by simp)
      (by intro j u hj
          rw [List.getElem?_map] at hj
          cases hxj : xs[j]? with
          | none => rw [hxj] at hj; cases hj
          | some y =>
            rw [hxj] at hj; cases hj
            rw [Addr.add_lit]
            exact (hS.blk.cell (off + j)).trans (hS.at_ j y hxj))
      ad 1 c [.int .i64 x] rfl hnews (by omega) (by unfold maxLen; omega) (by omega)
    have hown' : Own w' W.heap.size v' (xs ++ [x]) := by simpa [Own] using hown
    obtain ⟨g', cap', cur', hv, hS'⟩ := Seg.of_own hown' (by simp)
    refine ⟨v', w', hrun, ⟨g', 0, cap', cur', by rw [hv]; simp, ⟨Nat.le_trans hB hS'.lo, hS'.blk, hS'.size, hS'.le, hS'.max, hS'.at_⟩⟩, ?_⟩
    refine ⟨⟨hgr.os, hgr.tape, hgr.output, hgr.size, fun k hk => hgr.block k (by omega) (by simp)⟩, fun j _ => ?_⟩
    exact World.cell?_of_block (hgr.block g hS.blk.lt (by simp))

theorem step_seg {ops : Array Oper} {o : Oper} {a : Act} {W : World} {K : Act → World → Prop} {Q : Exit → Act → World → Prop} {E : Prop} (hgd : o.guard = none) (s x : Operand)
    (ho : o.op = .call { callee := .builtin .append, args := #[s, x], argTypes := #[23, 23] })
    (B g off cap : Nat) (xs : List Int) (cur : Array Value) (z : Int) (n : Nat) (hn : xs.length = n) (hs : a.eval s = .slice (some ⟨g, off, none⟩) n cap) (ad : Addr) (c : Nat) (hx : a.eval x = .slice (some ad) 1 c)
    (hS : Seg W B g off cap xs cur) (hz : W.cell? (ad.add 0) = some (.int .i64 z)) (hB : B ≤ W.heap.size) (hm : n ≤ 1000000000000)
    (h : ∀ g' off' cap' cur' w', Seg w' B g' off' cap' (xs ++ [z]) cur' → Below B W w' → (∀ j, j < off + n → w'.cell? ⟨g, j, none⟩ = W.cell? ⟨g, j, none⟩) → K (a.put o.dst (.slice (some ⟨g', off', none⟩) (n + 1) cap')) w') :
    if Region.wanted o (yielded ops a.tmps) = true then Oper.wp Try.prog o a W K Q else E := by
  have hw : Region.wanted o (yielded ops a.tmps) = true := by simp [Region.wanted, hgd]
  rw [if_pos hw]
  subst hn
  obtain ⟨v', w', hrun, ⟨g', off', cap', cur', rfl, h2⟩, h4, h5⟩ := run_seg W B o.type g off cap xs cur z hS hB ad c hz hm
  unfold Oper.wp execOp
  simp only [ho, resolve, invoke, builtin, Sem.run_bind, Sem.run_pure, Result.andThen_ok, List.map_toArray, List.map_cons, List.map_nil, hs, hx, hrun]
  exact h g' off' cap' cur' w' h2 h4 h5

/-- a store into it -/
theorem Seg.set {w : World} {B g off cap : Nat} {xs : List Int} {cur : Array Value} (h : Seg w B g off cap xs cur) (j : Nat) (y : Int) :
    Seg (w.setCell ⟨g, off + j, none⟩ (.int .i64 y)) B g off cap (xs.set j y) (cur.setIfInBounds (off + j) (.int .i64 y)) := by
  refine ⟨h.lo, h.blk.set_ _ _, by simpa using h.size, by simpa using h.le, h.max, fun k x hk => ?_⟩
  rw [List.getElem?_set] at hk
  rw [Array.getElem?_setIfInBounds]
  by_cases e : j = k
  · subst e
    rw [if_pos rfl] at hk
    by_cases hj : j < xs.length
    · rw [if_pos hj] at hk
      have := h.size
      have := h.le
      rw [if_pos rfl, if_pos (by omega), Option.some.inj hk]
    · rw [if_neg hj] at hk; cases hk
  · rw [if_neg e] at hk
    rw [if_neg (by omega)]
    exact h.at_ k x hk
theorem Seg.drewN {w : World} {B g off cap : Nat} {xs : List Int} {cur : Array Value} (h : Seg w B g off cap xs cur) (n : Nat) : Seg (w.drewN n) B g off cap xs cur := ⟨h.lo, h.blk, h.size, h.le, h.max, h.at_⟩
theorem Seg.far {w : World} {B g off cap : Nat} {xs : List Int} {cur : Array Value} (h : Seg w B g off cap xs cur) (o : Obj) : Seg (w.alloc o) B g off cap xs cur := ⟨h.lo, h.blk.alloc o, h.size, h.le, h.max, h.at_⟩
theorem below_set (w : World) {B g : Nat} (i : Nat) (v : Value) (h : B ≤ g) : Below B w (w.setCell ⟨g, i, none⟩ v) :=
  ⟨rfl, rfl, rfl, by simp, fun n hn => heap_setCell_other w ⟨g, i, none⟩ n v (by show n ≠ g; omega)⟩
theorem cell_alloc {w : World} {p : Addr} {v : Value} (o : Obj) (h : w.cell? p = some v) : (w.alloc o).cell? p = some v :=
  (((Below.refl w.heap.size w).alloc (Nat.le_refl _) o).cell (World.block_lt_of_cell? _ _ h)).trans h
theorem new_cell0 (w : World) (v : Value) (t : TypeId) : (w.alloc (.cells #[v] t)).cell? ((⟨w.heap.size, 0, none⟩ : Addr).add 0) = some v := by
  rw [Addr.add_lit]
  exact (Blk.new w t #[v]).cell 0
/-- all of it within bounds -/
def Tight (xs : List Int) : Prop := ∀ x ∈ xs, -1500 ≤ x ∧ x ≤ 1500
theorem Tight.set {xs : List Int} (h : Tight xs) (j : Nat) {y : Int} (hy : -1500 ≤ y ∧ y ≤ 1500) : Tight (xs.set j y) := by
  intro x hx
  rcases List.mem_or_eq_of_mem_set hx with h' | h'
  · exact h x h'
  · exact h' ▸ hy
/-- all of it within bounds -/
def Small (xs : List Int) : Prop := ∀ x ∈ xs, -2000 ≤ x ∧ x ≤ 2000
theorem Small.set {xs : List Int} (h : Small xs) (j : Nat) {y : Int} (hy : -2000 ≤ y ∧ y ≤ 2000) : Small (xs.set j y) := by
  intro x hx
  rcases List.mem_or_eq_of_mem_set hx with h' | h'
  · exact h x h'
  · exact h' ▸ hy
theorem Tight.small {xs : List Int} (h : Tight xs) : Small xs := fun x hx => by have := h x hx; omega
/-- a slice that reads as a list, no cell of it in block r -/
def Away (w : World) (r : Nat) (A : Option Addr) (xs : List Int) : Prop := xs ≠ [] → ∃ b off, A = some ⟨b, off, none⟩ ∧ b ≠ r ∧ b < w.heap.size ∧ ∀ k x, xs[k]? = some x → w.cell? ⟨b, off + k, none⟩ = some (.int .i64 x)
theorem Away.ints {w : World} {r : Nat} {A : Option Addr} {xs : List Int} (h : Away w r A xs) : Ints w A xs := fun hn => by
  obtain ⟨b, off, e, _, hb, hc⟩ := h hn
  exact ⟨b, off, e, hb, hc⟩
theorem Away.grown {w w' : World} {r : Nat} {A : Option Addr} {xs : List Int} (h : Away w r A xs) (hg : w.grownBy w' (some r)) : Away w' r A xs := fun hn => by
  obtain ⟨b, off, e, hne, hb, hc⟩ := h hn
  exact ⟨b, off, e, hne, Nat.lt_of_lt_of_le hb hg.size, fun k x hk => (hg.cell_far ⟨b, off + k, none⟩ hb (fun e => hne (Option.some.inj e))).trans (hc k x hk)⟩
theorem Away.below {w w' : World} {r : Nat} {A : Option Addr} {xs : List Int} (h : Away w r A xs) (hg : Below w.heap.size w w') : Away w' r A xs := fun hn => by
  obtain ⟨b, off, e, hne, hb, hc⟩ := h hn
  exact ⟨b, off, e, hne, Nat.lt_of_lt_of_le hb hg.size, fun k x hk => (hg.cell hb).trans (hc k x hk)⟩

theorem Away.nil (w : World) (r : Nat) (A : Option Addr) : Away w r A [] := fun h => absurd rfl h
theorem Seg.away {w : World} {B g off cap r : Nat} {xs : List Int} {cur : Array Value} (h : Seg w B g off cap xs cur) (hr : r < B) : Away w r (some ⟨g, off, none⟩) xs :=
  fun _ => ⟨g, off, rfl, by have := h.lo; omega, h.blk.lt, fun k x hk => (h.blk.cell (off + k)).trans (h.at_ k x hk)⟩
end Go.Proofs.Ytngpeehjjcgmmaa
