/- A slice of integers anywhere in a block that the call made: its tail, one element more. No condition. The program's AnglesBack, FoldsBalance, FoldsSwap. No condition but sizes. The drawn texts: 'l91Text', 'l91Any'. No condition but sizes. What the texts of words stand on, from the texts of rings. No condition. -/
import Derived.ArgAppend
import Derived.Test.YtmohfibgefcefaaGreatDoorApp
import Derived.Lib.ConvBytes
import Derived.Test.YtmohfibgefcefaaGreatDoorFnExecuteSheetP45
import Derived.Test.YtmohfibgefcefaaGreatDoorReadB
import Derived.Test.YtmohfibgefcefaaGreatDoorPlain
import Derived.Test.YtmohfibgefcefaaGreatDoorImplB
import Derived.Test.YtmohfibgefcefaaGreatDoorFnExecuteSheetP44
import Derived.Test.YtmohfibgefcefaaGreatDoorSpecA
import Derived.Test.YtmohfibgefcefaaGreatDoorBytes
import Derived.Test.YtmohfibgefcefaaGreatDoorOpenB
namespace Go.Proofs.YtmohfibgefcefaaGreatDoor
open Go.RowKit

/-- the integers xs lie from off on in block g, which the call made and which has room for cap -/
structure Seg (w : World) (B : Nat) (g off cap : Nat) (xs : List Int) (cur : Array Value) : Prop where
  lo : B ≤ g
  blk : Blk w g 3 cur
  size : off + cap ≤ cur.size
  le : xs.length ≤ cap
  max : cap ≤ maxLen
  at_ : ∀ j x, xs[j]? = some x → cur[off + j]? = some (.int .i64 x)

theorem Seg.ints {w : World} {B g off cap : Nat} {xs : List Int} {cur : Array Value} (h : Seg w B g off cap xs cur) : Ints w (some ⟨g, off, none⟩) xs :=
  fun _ => ⟨g, off, rfl, h.blk.lt, fun k x hk => (h.blk.cell (off + k)).trans (h.at_ k x hk)⟩
theorem Seg.of_own {w : World} {B : Nat} {v : Value} {xs : List Int} (h : Own w B v xs) (h0 : 0 < xs.length) : ∃ g cap cur, v = .slice (some ⟨g, 0, none⟩) xs.length cap ∧ Seg w B g 0 cap xs cur := by
  rcases h.2 with ⟨_, hz⟩ | ⟨g, cap, cur, hv, hb, hg, hnc, hcm, hcs, htake⟩
  · omega
  · refine ⟨g, cap, cur, hv, hb, hg, by omega, hnc, hcm, fun j x hx => ?_⟩
    have hj : j < xs.length := (List.getElem?_eq_some_iff.1 hx).1
    have e : (cur.toList.take (xs.length * 1))[j]? = (xs.map (Value.int .i64))[j]? := by rw [htake]
    rw [List.getElem?_take, if_pos (by omega), List.getElem?_map, hx] at e
    simpa using e
theorem Seg.tail {w : World} {B g off cap : Nat} {x : Int} {xs : List Int} {cur : Array Value} (h : Seg w B g off cap (x :: xs) cur) : Seg w B g (off + 1) (cap - 1) xs cur :=
  ⟨h.lo, h.blk, by have := h.size; have := h.le; simp at this; omega, by have := h.le; simp at this; omega, by have := h.max; omega, fun j y hy => by
    have := h.at_ (j + 1) y (by simpa using hy)
    rwa [show off + 1 + j = off + (j + 1) from by omega]⟩

theorem grown_below {w W w' : World} {row : Option Nat} (h : w.grownBy W row) (k : Below w.heap.size W w') : w.grownBy w' row :=
  ⟨k.os.trans h.os, k.tape.trans h.tape, k.output.trans h.output, Nat.le_trans h.size k.size, fun i hi hr => (k.block i hi).trans (h.block i hi hr)⟩
theorem Seg.grown {w w' : World} {B g off cap : Nat} {xs : List Int} {cur : Array Value} {row : Option Nat} (h : Seg w B g off cap xs cur) (hg : w.grownBy w' row) (hne : some g ≠ row) : Seg w' B g off cap xs cur :=
  ⟨h.lo, h.blk.grown hg hne, h.size, h.le, h.max, h.at_⟩

theorem run_seg (W : World) (B : Nat) (ty : TypeId) (g off cap : Nat) (xs : List Int) (cur : Array Value) (x : Int) (hS : Seg W B g off cap xs cur) (hB : B ≤ W.heap.size) (ad : Addr) (c : Nat) (hx : W.cell? (ad.add 0) = some (.int .i64 x)) (hn : xs.length ≤ 1000000000000) :
    ∃ v' w', (Builtin.append_ #[35, 35] ty #[.slice (some ⟨g, off, none⟩) xs.length cap, .slice (some ad) 1 c]).run Tryz.prog W = .ok v' w' ∧
      (∃ g' off' cap' cur', v' = .slice (some ⟨g', off', none⟩) (xs.length + 1) cap' ∧ Seg w' B g' off' cap' (xs ++ [x]) cur') ∧ Below B W w' ∧ ∀ j, j < off + xs.length → w'.cell? ⟨g, j, none⟩ = W.cell? ⟨g, j, none⟩ := by
  obtain ⟨i0, hi, hz0, hz1, hz2⟩ := info_parts Tryz.infoInt
  have hnews : ∀ j u, [Value.int .i64 x][j]? = some u → W.cell? (ad.add j) = some u := by
    intro j u hj
    match j, hj with
    | 0, hj => cases hj; exact hx
  by_cases hr : xs.length + 1 ≤ cap
  · have hsz := hS.size
    have hlt : off + xs.length < cur.size := by omega
    have hcell : (W.cell? ⟨g, off + xs.length, none⟩).isSome = true := by rw [hS.blk.cell, Array.getElem?_eq_getElem hlt]; rfl
    have hrun := run_append_room_cells (P := Tryz.prog) W 35 ty 3 i0 Tryz.underlying35 hi g off xs.length cap ad 1 c [.int .i64 x] (by rw [hz1]; rfl) hnews (by intro u hu; simp at hu; subst hu; rfl) hr
      (by intro j hj; rw [hz1]; simp at hj; subst hj; simpa using hcell) (by intro j _; exact hS.blk.frozen _)
    rw [hz1, Nat.mul_one] at hrun
    refine ⟨_, _, hrun, ⟨g, off, cap, cur.setIfInBounds (off + xs.length) (.int .i64 x), rfl, ⟨hS.lo, hS.blk.set_ _ _, by simpa using hsz, by simpa using hr, hS.max, ?_⟩⟩, ?_, ?_⟩
    · intro j y hj
      rw [Array.getElem?_setIfInBounds]
      by_cases hjl : j < xs.length
      · rw [if_neg (by omega)]
        exact hS.at_ j y (by rwa [List.getElem?_append_left hjl] at hj)
      · have : j = xs.length := by
          have := (List.getElem?_eq_some_iff.1 hj).1
          simp at this; omega
        subst this
        rw [if_pos rfl, if_pos hlt]
        simpa using hj
    · exact ⟨rfl, rfl, rfl, by simp [World.setCells], fun k hk => heap_setCell_other W ⟨g, off + xs.length, none⟩ k _ (by have := hS.lo; show k ≠ g; omega)⟩
    · intro j hj
      refine ((hS.blk.set_ (off + xs.length) (.int .i64 x)).cell j).trans ?_
      rw [hS.blk.cell, Array.getElem?_setIfInBounds, if_neg (by omega)]
  · have hI := hS.ints
    obtain ⟨v', w', hrun, hown, hgr⟩ := run_append_arg_grows (P := Tryz.prog) W 35 ty 3 i0 (.int .i64 0) 1 8 Tryz.underlying35 hi hz0 hz1 hz2 rfl (by decide) ⟨g, off, none⟩ xs.length cap (xs.map (Value.int .i64)) (by simp)
      (by intro j u hj
          rw [List.getElem?_map] at hj
          cases hxj : xs[j]? with
          | none => rw [hxj] at hj; cases hj
          | some y =>
            rw [hxj] at hj; cases hj
            rw [Addr.add_lit]
            exact (hS.blk.cell (off + j)).trans (hS.at_ j y hxj))
      ad 1 c [.int .i64 x] rfl hnews (by omega) (by unfold maxLen; omega) (by omega)
    have hown' : Own w' W.heap.size v' (xs ++ [x]) := by simpa [Own] using hown
    obtain ⟨g', cap', cur', hv, hS'⟩ := Seg.of_own hown' (by simp)
    refine ⟨v', w', hrun, ⟨g', 0, cap', cur', by rw [hv]; simp, ⟨Nat.le_trans hB hS'.lo, hS'.blk, hS'.size, hS'.le, hS'.max, hS'.at_⟩⟩, ?_⟩
    refine ⟨⟨hgr.os, hgr.tape, hgr.output, hgr.size, fun k hk => hgr.block k (by omega) (by simp)⟩, fun j _ => ?_⟩
    exact World.cell?_of_block (hgr.block g hS.blk.lt (by simp))

theorem step_seg {ops : Array Oper} {o : Oper} {a : Act} {W : World} {K : Act → World → Prop} {Q : Exit → Act → World → Prop} {E : Prop} (hgd : o.guard = none) (s x : Operand)
    (ho : o.op = .call { callee := .builtin .append, args := #[s, x], argTypes := #[35, 35] })
    (B g off cap : Nat) (xs : List Int) (cur : Array Value) (z : Int) (n : Nat) (hn : xs.length = n) (hs : a.eval s = .slice (some ⟨g, off, none⟩) n cap) (ad : Addr) (c : Nat) (hx : a.eval x = .slice (some ad) 1 c)
    (hS : Seg W B g off cap xs cur) (hz : W.cell? (ad.add 0) = some (.int .i64 z)) (hB : B ≤ W.heap.size) (hm : n ≤ 1000000000000)
    (h : ∀ g' off' cap' cur' w', Seg w' B g' off' cap' (xs ++ [z]) cur' → Below B W w' → (∀ j, j < off + n → w'.cell? ⟨g, j, none⟩ = W.cell? ⟨g, j, none⟩) → K (a.put o.dst (.slice (some ⟨g', off', none⟩) (n + 1) cap')) w') :
    if Region.wanted o (yielded ops a.tmps) = true then Oper.wp Tryz.prog o a W K Q else E := by
  have hw : Region.wanted o (yielded ops a.tmps) = true := by simp [Region.wanted, hgd]
  rw [if_pos hw]
  subst hn
  obtain ⟨v', w', hrun, ⟨g', off', cap', cur', rfl, h2⟩, h4, h5⟩ := run_seg W B o.type g off cap xs cur z hS hB ad c hz hm
  unfold Oper.wp execOp
  simp only [ho, resolve, invoke, builtin, Sem.run_bind, Sem.run_pure, Result.andThen_ok, List.map_toArray, List.map_cons, List.map_nil, hs, hx, hrun]
  exact h g' off' cap' cur' w' h2 h4 h5

/-- a store into it -/
theorem Seg.set {w : World} {B g off cap : Nat} {xs : List Int} {cur : Array Value} (h : Seg w B g off cap xs cur) (j : Nat) (y : Int) :
    Seg (w.setCell ⟨g, off + j, none⟩ (.int .i64 y)) B g off cap (xs.set j y) (cur.setIfInBounds (off + j) (.int .i64 y)) := by
  refine ⟨h.lo, h.blk.set_ _ _, by simpa using h.size, by simpa using h.le, h.max, fun k x hk => ?_⟩
  rw [List.getElem?_set] at hk
  rw [Array.getElem?_setIfInBounds]
  by_cases e : j = k
  · subst e
    rw [if_pos rfl] at hk
    by_cases hj : j < xs.length
    · rw [if_pos hj] at hk
      have := h.size
      have := h.le
      rw [if_pos rfl, if_pos (by omega), Option.some.inj hk]
    · rw [if_neg hj] at hk; cases hk
  · rw [if_neg e] at hk
    rw [if_neg (by omega)]
    exact h.at_ k x hk
theorem Seg.drewN {w : World} {B g off cap : Nat} {xs : List Int} {cur : Array Value} (h : Seg w B g off cap xs cur) (n : Nat) : Seg (w.drewN n) B g off cap xs cur := ⟨h.lo, h.blk, h.size, h.le, h.max, h.at_⟩
theorem Seg.far {w : World} {B g off cap : Nat} {xs : List Int} {cur : Array Value} (h : Seg w B g off cap xs cur) (o : Obj) : Seg (w.alloc o) B g off cap xs cur := ⟨h.lo, h.blk.alloc o, h.size, h.le, h.max, h.at_⟩
theorem below_set (w : World) {B g : Nat} (i : Nat) (v : Value) (h : B ≤ g) : Below B w (w.setCell ⟨g, i, none⟩ v) :=
  ⟨rfl, rfl, rfl, by simp, fun n hn => heap_setCell_other w ⟨g, i, none⟩ n v (by show n ≠ g; omega)⟩
theorem cell_alloc {w : World} {p : Addr} {v : Value} (o : Obj) (h : w.cell? p = some v) : (w.alloc o).cell? p = some v :=
  (((Below.refl w.heap.size w).alloc (Nat.le_refl _) o).cell (World.block_lt_of_cell? _ _ h)).trans h
theorem new_cell0 (w : World) (v : Value) (t : TypeId) : (w.alloc (.cells #[v] t)).cell? ((⟨w.heap.size, 0, none⟩ : Addr).add 0) = some v := by
  rw [Addr.add_lit]
  exact (Blk.new w t #[v]).cell 0
/-- all of it within bounds -/
def Tight (xs : List Int) : Prop := ∀ x ∈ xs, -1500 ≤ x ∧ x ≤ 1500
theorem Tight.set {xs : List Int} (h : Tight xs) (j : Nat) {y : Int} (hy : -1500 ≤ y ∧ y ≤ 1500) : Tight (xs.set j y) := by
  intro x hx
  rcases List.mem_or_eq_of_mem_set hx with h' | h'
  · exact h x h'
  · exact h' ▸ hy
/-- all of it within bounds -/
def Small (xs : List Int) : Prop := ∀ x ∈ xs, -2000 ≤ x ∧ x ≤ 2000
theorem Small.set {xs : List Int} (h : Small xs) (j : Nat) {y : Int} (hy : -2000 ≤ y ∧ y ≤ 2000) : Small (xs.set j y) := by
  intro x hx
  rcases List.mem_or_eq_of_mem_set hx with h' | h'
  · exact h x h'
  · exact h' ▸ hy
theorem Tight.small {xs : List Int} (h : Tight xs) : Small xs := fun x hx => by have := h x hx; omega
/-- a slice that reads as a list, no cell of it in block r -/
def Away (w : World) (r : Nat) (A : Option Addr) (xs : List Int) : Prop := xs ≠ [] → ∃ b off, A = some ⟨b, off, none⟩ ∧ b ≠ r ∧ b < w.heap.size ∧ ∀ k x, xs[k]? = some x → w.cell? ⟨b, off + k, none⟩ = some (.int .i64 x)
theorem Away.ints {w : World} {r : Nat} {A : Option Addr} {xs : List Int} (h : Away w r A xs) : Ints w A xs := fun hn => by
  obtain ⟨b, off, e, _, hb, hc⟩ := h hn
  exact ⟨b, off, e, hb, hc⟩
theorem Away.grown {w w' : World} {r : Nat} {A : Option Addr} {xs : List Int} (h : Away w r A xs) (hg : w.grownBy w' (some r)) : Away w' r A xs := fun hn => by
  obtain ⟨b, off, e, hne, hb, hc⟩ := h hn
  exact ⟨b, off, e, hne, Nat.lt_of_lt_of_le hb hg.size, fun k x hk => (hg.cell_far ⟨b, off + k, none⟩ hb (fun e => hne (Option.some.inj e))).trans (hc k x hk)⟩
theorem Away.below {w w' : World} {r : Nat} {A : Option Addr} {xs : List Int} (h : Away w r A xs) (hg : Below w.heap.size w w') : Away w' r A xs := fun hn => by
  obtain ⟨b, off, e, hne, hb, hc⟩ := h hn
  exact ⟨b, off, e, hne, Nat.lt_of_lt_of_le hb hg.size, fun k x hk => (hg.cell hb).trans (hc k x hk)⟩

theorem Away.nil (w : World) (r : Nat) (A : Option Addr) : Away w r A [] := fun h => absurd rfl h
theorem Seg.away {w : World} {B g off cap r : Nat} {xs : List Int} {cur : Array Value} (h : Seg w B g off cap xs cur) (hr : r < B) : Away w r (some ⟨g, off, none⟩) xs :=
  fun _ => ⟨g, off, rfl, by have := h.lo; omega, h.blk.lt, fun k x hk => (h.blk.cell (off + k)).trans (h.at_ k x hk)⟩
end Go.Proofs.YtmohfibgefcefaaGreatDoor
namespace Go.Proofs.YtmohfibgefcefaaGreatDoor
open Go.RowKit



/-- the bytes bs at the head of a block that the call made -/
structure BRow (w : World) (B b : Nat) (bs : List UInt8) : Prop where
  lo : B ≤ b
  row : ∃ cs : Array Value, w.heap[b]? = some (.cells cs 5 (cs.size, cs.size + 1)) ∧ bs.length ≤ cs.size ∧ ∀ (j : Nat) (c : UInt8), bs[j]? = some c → cs[j]? = some (Value.int .u8 (c.toNat : Int))
theorem BRow.cell {w : World} {B b : Nat} {bs : List UInt8} (h : BRow w B b bs) {j : Nat} (hj : j < bs.length) : w.cell? ⟨b, j, none⟩ = some (.int .u8 (bs[j].toNat : Int)) := by
  obtain ⟨cs, h1, h2, h3⟩ := h.row
  rw [cell_of_row w b j cs 5 _ h1]
  exact h3 j _ (List.getElem?_eq_getElem hj)
theorem BRow.frozen {w : World} {B b : Nat} {bs : List UInt8} (h : BRow w B b bs) {j : Nat} (hj : j < bs.length) : w.frozen? ⟨b, j, none⟩ = false := by
  obtain ⟨cs, h1, h2, h3⟩ := h.row
  simp [World.frozen?, h1]
  omega
theorem BRow.set {w : World} {B b : Nat} {bs : List UInt8} (h : BRow w B b bs) (j : Nat) (c : UInt8) : BRow (w.setCell ⟨b, j, none⟩ (.int .u8 (c.toNat : Int))) B b (bs.set j c) := by
  obtain ⟨cs, h1, h2, h3⟩ := h.row
  refine ⟨h.lo, cs.setIfInBounds j (.int .u8 (c.toNat : Int)), ?_, by simpa using h2, fun k d hk => ?_⟩
  · simp [World.setCell, Array.getElem?_modify, h1]
  · rw [List.getElem?_set] at hk
    rw [Array.getElem?_setIfInBounds]
    by_cases e : j = k
    · subst e
      rw [if_pos rfl] at hk ⊢
      by_cases hl : j < bs.length
      · rw [if_pos hl] at hk
        rw [if_pos (by omega), Option.some.inj hk]
      · rw [if_neg hl] at hk; cases hk
    · rw [if_neg e] at hk ⊢
      exact h3 k d hk
def swTo (l : List UInt8) (k : Nat) : List UInt8 := (l.take k).map swB ++ l.drop k
theorem swTo_len (l : List UInt8) (k : Nat) : (swTo l k).length = l.length := by unfold swTo; simp; omega
theorem swTo_at {l : List UInt8} {k : Nat} (h : k < l.length) : (swTo l k)[k]? = some l[k] := by
  unfold swTo
  rw [List.getElem?_append_right (by simp; omega), List.length_map, List.length_take, Nat.min_eq_left (by omega), Nat.sub_self, List.drop_eq_getElem_cons h]; rfl
theorem swTo_succ {l : List UInt8} {k : Nat} (h : k < l.length) : (swTo l k).set k (swB l[k]) = swTo l (k + 1) := by
  unfold swTo
  rw [List.set_append_right _ _ (by simp; omega), List.length_map, List.length_take, Nat.min_eq_left (by omega), Nat.sub_self, List.drop_eq_getElem_cons h, List.set_cons_zero, List.take_succ_eq_append_getElem h, List.map_append, List.append_assoc]
  rfl
theorem swTo_same {l : List UInt8} {k : Nat} (h : k < l.length) (e : swB l[k] = l[k]) : swTo l (k + 1) = swTo l k := by
  rw [← swTo_succ h, e]
  apply List.ext_getElem?
  intro i
  rw [List.getElem?_set]
  split
  · next e2 =>
    subst e2
    rw [if_pos (by rw [swTo_len]; exact h), swTo_at h]
  · rfl
theorem BRow.text {w : World} {B b cp : Nat} {bs : List UInt8} {n : Nat} (h : BRow w B b bs) (hn : bs.length = n) : (convert 22 9 (.slice (some ⟨b, 0, none⟩) n cp)).run Tryz.prog w = .ok (.string (bts bs)) w := by
  subst hn
  refine run_convert_bytes_back w 22 9 5 ⟨b, 0, none⟩ cp bs Tryz.underlying22 Tryz.underlying5 Tryz.underlying9 fun j hj => ?_
  rw [Addr.add_lit, Nat.zero_add]
  exact h.cell hj
set_option maxHeartbeats 1000000 in
set_option maxRecDepth 100000 in
theorem impl_FoldsSwap (s : ByteArray) (w : World) (hs : s.size ≤ 1000) :
    Calls Tryz.prog 107 #[.string s] w fun e w' => e = .returned (.string (swT s)) ∧ Below w.heap.size w w' := by
  go_enter Tryz.func107, Tryz.ntmps107
  go_wp2_with fail
  have HR := Lib.hid (Lib.run_convert_string_bytes (P := Tryz.prog) w 9 22 5 s Tryz.underlying9 Tryz.underlying22 Tryz.underlying5)
  rw [HR.out]
  have hB : Below w.heap.size w (Lib.bytesWorld w 5 s) := ⟨rfl, rfl, rfl, by rw [Lib.bytesWorld_size]; omega, fun k hk => Lib.bytesWorld_at_old w 5 s k hk⟩
  have hR : BRow (Lib.bytesWorld w 5 s) w.heap.size w.heap.size s.data.toList := by
    refine ⟨Nat.le_refl _, _, Lib.bytesWorld_at_new w 5 s, ?_, ?_⟩
    · rw [size_list]; simp [Lib.bytesCells]
    · intro j c hj
      have := Lib.bytesWorld_cell w 5 s j (by have := (List.getElem?_eq_some_iff.1 hj).1; rwa [size_list] at this)
      rw [cell_of_row _ _ j _ _ _ (Lib.bytesWorld_at_new w 5 s)] at this
      rw [this, List.getD_eq_getElem?_getD, hj]; rfl
  have HBw := Lib.hid hB
  have HRw := Lib.hid hR
  generalize Lib.bytesWorld w 5 s = w1 at HBw HRw ⊢
  generalize grownCap w s.size 0 5 = cp
  clear hB hR HR
  go_wp2_with fail
  go_loopg [4, 5, 10] (s.size + 1) (fun g s4 s5 s10 wr => ∃ (k : Nat), k ≤ s.size ∧ s10 = .int .i64 k ∧ s.size - k < g ∧ Hid (BRow wr w.heap.size w.heap.size (swTo s.data.toList k)) ∧ Hid (Below w.heap.size w wr))
  case atStart => exact ⟨0, Nat.zero_le _, rfl, by omega, HRw, HBw⟩
  case round =>
    clear HBw HRw
    obtain ⟨k, hk, rfl, hg, HR, HB⟩ := hrel
    cases gk with
    | zero => omega
    | succ g =>
    by_cases hlt : k < s.size
    · have hl : k < s.data.toList.length := by rw [size_list]; exact hlt
      have hl2 : k < (swTo s.data.toList k).length := by rw [swTo_len]; exact hl
      have c1 := HR.out.cell hl2
      have hat : (swTo s.data.toList k)[k] = s[k] := by
        have := swTo_at hl
        rw [List.getElem?_eq_getElem hl2] at this
        exact Option.some.inj this
      rw [hat] at c1
      have f1 := HR.out.frozen hl2
      have i1 : (k : Int) < (s.size : Int) := by omega
      have st86 := HR.out.set k 86
      have st77 := HR.out.set k 77
      have hb86 := HB.out.trans (below_set wr k (.int .u8 86) (Nat.le_refl w.heap.size))
      have hb77 := HB.out.trans (below_set wr k (.int .u8 77) (Nat.le_refl w.heap.size))
      have hsk : s.data.toList[k] = s[k] := rfl
      by_cases m1 : s[k] = 77
      · have e1 : ((s[k].toNat : Int) == 77) = true := by rw [m1]; rfl
        have S := Lib.hid (show BRow (wr.setCell ⟨w.heap.size, k, none⟩ (.int .u8 86)) w.heap.size w.heap.size (swTo s.data.toList (k + 1)) from by
          rw [← swTo_succ hl, hsk, m1]; exact st86)
        have HB2 := Lib.hid hb86
        clear m1 st86 st77 hb86 hb77 hsk HR HB hat
        go_wp2_with fail
        go_roundg g
        case measure => omega
        case rel => exact ⟨k + 1, by omega, by go_num, by omega, S, HB2⟩
      · have n1 : s[k].toNat ≠ 77 := fun e => m1 (UInt8.toNat_inj.1 (by rw [e]; rfl))
        have e1 : ((s[k].toNat : Int) == 77) = false := by rw [beq_eq_false_iff_ne]; omega
        by_cases m2 : s[k] = 86
        · have e2 : ((s[k].toNat : Int) == 86) = true := by rw [m2]; rfl
          have S := Lib.hid (show BRow (wr.setCell ⟨w.heap.size, k, none⟩ (.int .u8 77)) w.heap.size w.heap.size (swTo s.data.toList (k + 1)) from by
            rw [← swTo_succ hl, hsk, m2]; exact st77)
          have HB2 := Lib.hid hb77
          clear m1 m2 n1 st86 st77 hb86 hb77 hsk HR HB hat
          go_wp2_with fail
          go_roundg g
          case measure => omega
          case rel => exact ⟨k + 1, by omega, by go_num, by omega, S, HB2⟩
        · have n2 : s[k].toNat ≠ 86 := fun e => m2 (UInt8.toNat_inj.1 (by rw [e]; rfl))
          have e2 : ((s[k].toNat : Int) == 86) = false := by rw [beq_eq_false_iff_ne]; omega
          have S := Lib.hid (show BRow wr w.heap.size w.heap.size (swTo s.data.toList (k + 1)) from by
            rw [swTo_same hl (by rw [hsk]; unfold swB; rw [if_neg m1, if_neg m2])]; exact HR.out)
          clear m1 m2 n1 n2 st86 st77 hb86 hb77 hsk HR hat
          go_wp2_with fail
          go_roundg g
          case measure => omega
          case rel => exact ⟨k + 1, by omega, by go_num, by omega, S, HB⟩
    · obtain rfl : k = s.size := by omega
      have hfin : swTo s.data.toList s.size = s.data.toList.map swB := by
        unfold swTo
        rw [List.take_of_length_le (by rw [size_list]; exact Nat.le_refl _), List.drop_of_length_le (by rw [size_list]; exact Nat.le_refl _), List.append_nil]
      have hcv := HR.out.text (cp := cp) (n := s.size) (by rw [swTo_len, size_list])
      rw [hfin, show bts (s.data.toList.map swB) = swT s from rfl] at hcv
      clear hfin
      go_wp2_with fail
      go_ret
      exact ⟨rfl, HB.out⟩

end Go.Proofs.YtmohfibgefcefaaGreatDoor
namespace Go.Proofs.YtmohfibgefcefaaGreatDoor
open Go.RowKit

theorem Rd.far {w : World} {r : Nat} {A : Option Addr} {cap : Nat} {bs : List UInt8} {q : Nat} (h : Rd w r A cap bs q) (o : Obj) : Rd (w.alloc o) r A cap bs q :=
  h.below ((Below.refl w.heap.size w).alloc (Nat.le_refl _) o) h.blk.lt
theorem grown_alloc (w : World) (o : Obj) (row : Option Nat) : w.grownBy (w.alloc o) row :=
  ⟨rfl, rfl, rfl, by simp, fun k hk _ => Below.heap_alloc w o k hk⟩

set_option maxHeartbeats 1000000 in
theorem spec_l91Text (w : World) (r : Nat) (A : Option Addr) (cap : Nat) (bs : List UInt8) (q n : Nat) (h : Rd w r A cap bs q) (hq : q ≤ 900000) (hn : n ≤ 1000) :
    Calls Tryz.prog 88 #[ptr r, .int .i64 n] w fun e w' => ∃ s : ByteArray, e = .returned (.string s) ∧ s.size = n ∧ Rd w' r A cap bs (q + n) ∧ w.grownBy w' (some r) := by
  go_enter Tryz.func88, Tryz.ntmps88
  go_wp2_with fail
  go_loopg [5, 6] (n + 1) (fun g s5 s6 wr => ∃ (i : Nat) (t : ByteArray), i ≤ n ∧ s6 = .int .i64 i ∧ s5 = .string t ∧ t.size ≤ i ∧ Hid (t.size = i) ∧ n - i < g ∧ Rd wr r A cap bs (q + i) ∧ w.grownBy wr (some r))
  case atStart => exact ⟨0, _, Nat.zero_le _, rfl, rfl, Nat.le_refl _, rfl, by omega, h, World.grownBy.refl w _⟩
  case round =>
    obtain ⟨i, t, hi, rfl, rfl, hts, HT, hg, R, hgr⟩ := hrel
    cases gk with
    | zero => omega
    | succ g =>
    by_cases hlt : i < n
    · have hrl := R.blk.lt
      have R2 := R.far (.cells #[.string ⟨#[77]⟩, .string ⟨#[86]⟩] 9)
      have hgr2 := hgr.trans (grown_alloc wr (.cells #[.string ⟨#[77]⟩, .string ⟨#[86]⟩] 9) (some r))
      have hcell : ∀ k s, [ByteArray.mk #[77], ByteArray.mk #[86]][k]? = some s → (wr.alloc (.cells #[.string ⟨#[77]⟩, .string ⟨#[86]⟩] 9)).cell? ⟨wr.heap.size, k, none⟩ = some (.string s) := by
        intro k s hk
        rw [(Blk.new wr 9 #[.string ⟨#[77]⟩, .string ⟨#[86]⟩]).cell k]
        match k, hk with
        | 0, hk => cases hk; rfl
        | 1, hk => cases hk; rfl
      clear R hgr
      go_wp2_with fail
      refine (spec_of _ r A cap bs (q + i) wr.heap.size 2 [ByteArray.mk #[77], ByteArray.mk #[86]] R2 (by omega) (by decide) (by decide) (by omega) (by simp) hcell).mono ?_
      rintro e w1 ⟨s, hs, rfl, R3, hgr3⟩
      have hgr4 := hgr2.trans hgr3
      have hs1 : s.size = 1 := by
        simp at hs
        rcases hs with rfl | rfl <;> rfl
      have h63 : t.size + s.size ≤ 9223372036854775807 := by omega
      have b12 : ∀ W, (Op.stringOp .add t s).run Tryz.prog W = .ok (.string (t ++ s)) W := fun W => run_string_add_sum W _ _ h63
      have HS := Lib.hid hs1
      clear hs hcell hs1 h63 hgr2 hgr3
      go_wp2_with fail
      go_roundg g
      case measure => omega
      case rel => exact ⟨i + 1, t ++ s, by omega, by go_num, rfl, by rw [ByteArray.size_append, HS.out]; omega, by show _ = _; rw [ByteArray.size_append, HS.out, HT.out], by omega, R3, hgr4⟩
    · obtain rfl : i = n := by omega
      go_wp2_with fail
      go_ret
      exact ⟨t, rfl, HT.out, R, hgr⟩

set_option maxHeartbeats 1000000 in
theorem spec_l91Any (w : World) (r : Nat) (A : Option Addr) (cap : Nat) (bs : List UInt8) (q : Nat) (h : Rd w r A cap bs q) (hq : q ≤ 800000) :
    Calls Tryz.prog 99 #[ptr r] w fun e w' => ∃ (s : ByteArray) (q' : Nat), e = .returned (.string s) ∧ s.size ≤ 8 ∧ q' ≤ q + 10 ∧ Rd w' r A cap bs q' ∧ w.grownBy w' (some r) := by
  go_enter Tryz.func99, Tryz.ntmps99
  go_wp2_with fail
  refine (spec_pick w r A cap bs q 8 h (by omega) (by omega)).mono ?_
  rintro e w1 ⟨n, rfl, hn, R1, g1⟩
  go_wp2_with fail
  refine (spec_l91Text w1 r A cap bs (q + 1) n R1 (by omega) (by omega)).mono ?_
  rintro e w2 ⟨t, rfl, ht, R2, g2⟩
  have G2 := g1.trans g2
  have HT := Lib.hid ht
  have hts : t.size ≤ 7 := by omega
  clear ht R1 g1 g2
  go_wp2_with fail
  refine (spec_pick w2 r A cap bs (q + 1 + n) 4 R2 (by omega) (by omega)).mono ?_
  rintro e w3 ⟨m, rfl, hm, R3, g3⟩
  have G3 := G2.trans g3
  clear G2 g3 R2 hm
  by_cases m0 : m = 0
  · subst m0
    have hrl := R3.blk.lt
    have R4 := R3.far (.cells #[.string ⟨#[120]⟩, .string ⟨#[109]⟩, .string ⟨#[32]⟩, .string ⟨#[86]⟩] 9)
    have G4 := G3.trans (grown_alloc w3 (.cells #[.string ⟨#[120]⟩, .string ⟨#[109]⟩, .string ⟨#[32]⟩, .string ⟨#[86]⟩] 9) (some r))
    have hcell : ∀ k s, [ByteArray.mk #[120], ByteArray.mk #[109], ByteArray.mk #[32], ByteArray.mk #[86]][k]? = some s → (w3.alloc (.cells #[.string ⟨#[120]⟩, .string ⟨#[109]⟩, .string ⟨#[32]⟩, .string ⟨#[86]⟩] 9)).cell? ⟨w3.heap.size, k, none⟩ = some (.string s) := by
      intro k s hk
      rw [(Blk.new w3 9 #[.string ⟨#[120]⟩, .string ⟨#[109]⟩, .string ⟨#[32]⟩, .string ⟨#[86]⟩]).cell k]
      match k, hk with
      | 0, hk => cases hk; rfl
      | 1, hk => cases hk; rfl
      | 2, hk => cases hk; rfl
      | 3, hk => cases hk; rfl
    clear R3 G3
    go_wp2_with fail
    refine (spec_of _ r A cap bs (q + 1 + n + 1) w3.heap.size 4 [ByteArray.mk #[120], ByteArray.mk #[109], ByteArray.mk #[32], ByteArray.mk #[86]] R4 (by omega) (by decide) (by decide) (by omega) (by simp) hcell).mono ?_
    rintro e w5 ⟨s, hs, rfl, R5, g5⟩
    have G5 := G4.trans g5
    have hs1 : s.size = 1 := by
      simp at hs
      rcases hs with rfl | rfl | rfl | rfl <;> rfl
    have h63 : t.size + s.size ≤ 9223372036854775807 := by omega
    have b12 : ∀ W, (Op.stringOp .add t s).run Tryz.prog W = .ok (.string (t ++ s)) W := fun W => run_string_add_sum W _ _ h63
    have HS := Lib.hid hs1
    clear hs hcell hs1 h63 G4 g5
    go_wp2_with fail
    go_ret
    exact ⟨t ++ s, _, rfl, by rw [ByteArray.size_append, HS.out]; omega, by omega, R5, G5⟩
  · have d1 : ((m : Int) == 0) = false := by rw [beq_eq_false_iff_ne]; omega
    go_wp2_with fail
    go_ret
    exact ⟨t, _, rfl, by omega, by omega, R3, G3⟩

end Go.Proofs.YtmohfibgefcefaaGreatDoor
namespace Go.Proofs.YtmohfibgefcefaaGreatDoor
open Go.RowKit
/-- a text as its bytes -/
abbrev Tx := List UInt8
end Go.Proofs.YtmohfibgefcefaaGreatDoor
