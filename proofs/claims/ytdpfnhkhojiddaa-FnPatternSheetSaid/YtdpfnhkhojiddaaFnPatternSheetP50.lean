/- A slice of integers anywhere in a block that the call made: its tail, one element more. No condition. The program's tests of patterns: slices.Contains, addUses, creaseUses, PatternValid, PatternCreases. No condition but sizes. The reference's sums and tests of angles, lengths and rings. No condition but sizes. The reference's tests of angles that close, of lengths and rings, and its least number. No condition but sizes. The reference's tests of patterns: l2Has, l6pUses, l6pCreases, l6pVertex, PatternValid, PatternCreases. No condition but sizes. The reference's PatternValid and PatternCreases. No condition but sizes. -/
import Derived.ArgAppend
import Derived.Test.YtdpfnhkhojiddaaApp
import Derived.Laws.OwnMore
import Derived.Test.YtdpfnhkhojiddaaVert
import Derived.Test.YtdpfnhkhojiddaaPat
import Derived.Test.YtdpfnhkhojiddaaImplA
import Derived.Test.YtdpfnhkhojiddaaSpecA
namespace Go.Proofs.Ytdpfnhkhojiddaa
open Go.RowKit

/-- the integers xs lie from off on in block g, which the call made and which has room for cap -/
structure Seg (w : World) (B : Nat) (g off cap : Nat) (xs : List Int) (cur : Array Value) : Prop where
  lo : B ≤ g
  blk : Blk w g 3 cur
  size : off + cap ≤ cur.size
  le : xs.length ≤ cap
  max : cap ≤ maxLen
  at_ : ∀ j x, xs[j]? = some x → cur[off + j]? = some (.int .i64 x)

theorem Seg.ints {w : World} {B g off cap : Nat} {xs : List Int} {cur : Array Value} (h : Seg w B g off cap xs cur) : Ints w (some ⟨g, off, none⟩) xs :=
  fun _ => ⟨g, off, rfl, h.blk.lt, fun k x hk => (h.blk.cell (off + k)).trans (h.at_ k x hk)⟩
theorem Seg.of_own {w : World} {B : Nat} {v : Value} {xs : List Int} (h : Own w B v xs) (h0 : 0 < xs.length) : ∃ g cap cur, v = .slice (some ⟨g, 0, none⟩) xs.length cap ∧ Seg w B g 0 cap xs cur := by
  rcases h.2 with ⟨_, hz⟩ | ⟨g, cap, cur, hv, hb, hg, hnc, hcm, hcs, htake⟩
  · omega
  · refine ⟨g, cap, cur, hv, hb, hg, by omega, hnc, hcm, fun j x hx => ?_⟩
    have hj : j < xs.length := (List.getElem?_eq_some_iff.1 hx).1
    have e : (cur.toList.take (xs.length * 1))[j]? = (xs.map (Value.int .i64))[j]? := by rw [htake]
    rw [List.getElem?_take, if_pos (by omega), List.getElem?_map, hx] at e
    simpa using e
theorem Seg.tail {w : World} {B g off cap : Nat} {x : Int} {xs : List Int} {cur : Array Value} (h : Seg w B g off cap (x :: xs) cur) : Seg w B g (off + 1) (cap - 1) xs cur :=
  ⟨h.lo, h.blk, by have := h.size; have := h.le; simp at this; omega, by have := h.le; simp at this; omega, by have := h.max; omega, fun j y hy => by
    have := h.at_ (j + 1) y (by simpa using hy)
    rwa [show off + 1 + j = off + (j + 1) from by omega]⟩

theorem grown_below {w W w' : World} {row : Option Nat} (h : w.grownBy W row) (k : Below w.heap.size W w') : w.grownBy w' row :=
  ⟨k.os.trans h.os, k.tape.trans h.tape, k.output.trans h.output, Nat.le_trans h.size k.size, fun i hi hr => (k.block i hi).trans (h.block i hi hr)⟩
theorem Seg.grown {w w' : World} {B g off cap : Nat} {xs : List Int} {cur : Array Value} {row : Option Nat} (h : Seg w B g off cap xs cur) (hg : w.grownBy w' row) (hne : some g ≠ row) : Seg w' B g off cap xs cur :=
  ⟨h.lo, h.blk.grown hg hne, h.size, h.le, h.max, h.at_⟩

theorem run_seg (W : World) (B : Nat) (ty : TypeId) (g off cap : Nat) (xs : List Int) (cur : Array Value) (x : Int) (hS : Seg W B g off cap xs cur) (hB : B ≤ W.heap.size) (ad : Addr) (c : Nat) (hx : W.cell? (ad.add 0) = some (.int .i64 x)) (hn : xs.length ≤ 1000000000000) :
    ∃ v' w', (Builtin.append_ #[28, 28] ty #[.slice (some ⟨g, off, none⟩) xs.length cap, .slice (some ad) 1 c]).run Try.prog W = .ok v' w' ∧
      (∃ g' off' cap' cur', v' = .slice (some ⟨g', off', none⟩) (xs.length + 1) cap' ∧ Seg w' B g' off' cap' (xs ++ [x]) cur') ∧ Below B W w' ∧ ∀ j, j < off + xs.length → w'.cell? ⟨g, j, none⟩ = W.cell? ⟨g, j, none⟩ := by
  obtain ⟨i0, hi, hz0, hz1, hz2⟩ := info_parts Try.infoInt
  have hnews : ∀ j u, [Value.int .i64 x][j]? = some u → W.cell? (ad.add j) = some u := by
    intro j u hj
    match j, hj with
    | 0, hj => cases hj; exact hx
  by_cases hr : xs.length + 1 ≤ cap
  · have hsz := hS.size
    have hlt : off + xs.length < cur.size := by omega
    have hcell : (W.cell? ⟨g, off + xs.length, none⟩).isSome = true := by rw [hS.blk.cell, Array.getElem?_eq_getElem hlt]; rfl
    have hrun := run_append_room_cells (P := Try.prog) W 28 ty 3 i0 Try.underlying28 hi g off xs.length cap ad 1 c [.int .i64 x] (by rw [hz1]; rfl) hnews (by intro u hu; simp at hu; subst hu; rfl) hr
      (by intro j hj; rw [hz1]; simp at hj; subst hj; simpa using hcell) (by intro j _; exact hS.blk.frozen _)
    rw [hz1, Nat.mul_one] at hrun
    refine ⟨_, _, hrun, ⟨g, off, cap, cur.setIfInBounds (off + xs.length) (.int .i64 x), rfl, ⟨hS.lo, hS.blk.set_ _ _, by simpa using hsz, by simpa using hr, hS.max, ?_⟩⟩, ?_, ?_⟩
    · intro j y hj
      rw [Array.getElem?_setIfInBounds]
      by_cases hjl : j < xs.length
      · rw [if_neg (by omega)]
        exact hS.at_ j y (by rwa [List.getElem?_append_left hjl] at hj)
      · have : j = xs.length := by
          have := (List.getElem?_eq_some_iff.1 hj).1
          simp at this; omega
        subst this
        rw [if_pos rfl, if_pos hlt]
        simpa using hj
    · exact ⟨rfl, rfl, rfl, by simp [World.setCells], fun k hk => heap_setCell_other W ⟨g, off + xs.length, none⟩ k _ (by have := hS.lo; show k ≠ g; omega)⟩
    · intro j hj
      refine ((hS.blk.set_ (off + xs.length) (.int .i64 x)).cell j).trans ?_
      rw [hS.blk.cell, Array.getElem?_setIfInBounds, if_neg (by omega)]
  · have hI := hS.ints
    obtain ⟨v', w', hrun, hown, hgr⟩ := run_append_arg_grows (P := Try.prog) W 28 ty 3 i0 (.int .i64 0) 1 8 Try.underlying28 hi hz0 hz1 hz2 rfl (by decide) ⟨g, off, none⟩ xs.length cap (xs.map (Value.int .i64)) (by simp)
      (by intro j u hj
          rw [List.getElem?_map] at hj
          cases hxj : xs[j]? with
          | none => rw [hxj] at hj; cases hj
          | some y =>
            rw [hxj] at hj; cases hj
            rw [Addr.add_lit]
            exact (hS.blk.cell (off + j)).trans (hS.at_ j y hxj))
      ad 1 c [.int .i64 x] rfl hnews (by omega) (by unfold maxLen; omega) (by omega)
    have hown' : Own w' W.heap.size v' (xs ++ [x]) := by simpa [Own] using hown
    obtain ⟨g', cap', cur', hv, hS'⟩ := Seg.of_own hown' (by simp)
    refine ⟨v', w', hrun, ⟨g', 0, cap', cur', by rw [hv]; simp, ⟨Nat.le_trans hB hS'.lo, hS'.blk, hS'.size, hS'.le, hS'.max, hS'.at_⟩⟩, ?_⟩
    refine ⟨⟨hgr.os, hgr.tape, hgr.output, hgr.size, fun k hk => hgr.block k (by omega) (by simp)⟩, fun j _ => ?_⟩
    exact World.cell?_of_block (hgr.block g hS.blk.lt (by simp))

theorem step_seg {ops : Array Oper} {o : Oper} {a : Act} {W : World} {K : Act → World → Prop} {Q : Exit → Act → World → Prop} {E : Prop} (hgd : o.guard = none) (s x : Operand)
    (ho : o.op = .call { callee := .builtin .append, args := #[s, x], argTypes := #[28, 28] })
    (B g off cap : Nat) (xs : List Int) (cur : Array Value) (z : Int) (n : Nat) (hn : xs.length = n) (hs : a.eval s = .slice (some ⟨g, off, none⟩) n cap) (ad : Addr) (c : Nat) (hx : a.eval x = .slice (some ad) 1 c)
    (hS : Seg W B g off cap xs cur) (hz : W.cell? (ad.add 0) = some (.int .i64 z)) (hB : B ≤ W.heap.size) (hm : n ≤ 1000000000000)
    (h : ∀ g' off' cap' cur' w', Seg w' B g' off' cap' (xs ++ [z]) cur' → Below B W w' → (∀ j, j < off + n → w'.cell? ⟨g, j, none⟩ = W.cell? ⟨g, j, none⟩) → K (a.put o.dst (.slice (some ⟨g', off', none⟩) (n + 1) cap')) w') :
    if Region.wanted o (yielded ops a.tmps) = true then Oper.wp Try.prog o a W K Q else E := by
  have hw : Region.wanted o (yielded ops a.tmps) = true := by simp [Region.wanted, hgd]
  rw [if_pos hw]
  subst hn
  obtain ⟨v', w', hrun, ⟨g', off', cap', cur', rfl, h2⟩, h4, h5⟩ := run_seg W B o.type g off cap xs cur z hS hB ad c hz hm
  unfold Oper.wp execOp
  simp only [ho, resolve, invoke, builtin, Sem.run_bind, Sem.run_pure, Result.andThen_ok, List.map_toArray, List.map_cons, List.map_nil, hs, hx, hrun]
  exact h g' off' cap' cur' w' h2 h4 h5

/-- a store into it -/
theorem Seg.set {w : World} {B g off cap : Nat} {xs : List Int} {cur : Array Value} (h : Seg w B g off cap xs cur) (j : Nat) (y : Int) :
    Seg (w.setCell ⟨g, off + j, none⟩ (.int .i64 y)) B g off cap (xs.set j y) (cur.setIfInBounds (off + j) (.int .i64 y)) := by
  refine ⟨h.lo, h.blk.set_ _ _, by simpa using h.size, by simpa using h.le, h.max, fun k x hk => ?_⟩
  rw [List.getElem?_set] at hk
  rw [Array.getElem?_setIfInBounds]
  by_cases e : j = k
  · subst e
    rw [if_pos rfl] at hk
    by_cases hj : j < xs.length
    · rw [if_pos hj] at hk
      have := h.size
      have := h.le
      rw [if_pos rfl, if_pos (by omega), Option.some.inj hk]
    · rw [if_neg hj] at hk; cases hk
  · rw [if_neg e] at hk
    rw [if_neg (by omega)]
    exact h.at_ k x hk
theorem Seg.drewN {w : World} {B g off cap : Nat} {xs : List Int} {cur : Array Value} (h : Seg w B g off cap xs cur) (n : Nat) : Seg (w.drewN n) B g off cap xs cur := ⟨h.lo, h.blk, h.size, h.le, h.max, h.at_⟩
theorem Seg.far {w : World} {B g off cap : Nat} {xs : List Int} {cur : Array Value} (h : Seg w B g off cap xs cur) (o : Obj) : Seg (w.alloc o) B g off cap xs cur := ⟨h.lo, h.blk.alloc o, h.size, h.le, h.max, h.at_⟩
theorem below_set (w : World) {B g : Nat} (i : Nat) (v : Value) (h : B ≤ g) : Below B w (w.setCell ⟨g, i, none⟩ v) :=
  ⟨rfl, rfl, rfl, by simp, fun n hn => heap_setCell_other w ⟨g, i, none⟩ n v (by show n ≠ g; omega)⟩
theorem cell_alloc {w : World} {p : Addr} {v : Value} (o : Obj) (h : w.cell? p = some v) : (w.alloc o).cell? p = some v :=
  (((Below.refl w.heap.size w).alloc (Nat.le_refl _) o).cell (World.block_lt_of_cell? _ _ h)).trans h
theorem new_cell0 (w : World) (v : Value) (t : TypeId) : (w.alloc (.cells #[v] t)).cell? ((⟨w.heap.size, 0, none⟩ : Addr).add 0) = some v := by
  rw [Addr.add_lit]
  exact (Blk.new w t #[v]).cell 0
/-- all of it within bounds -/
def Tight (xs : List Int) : Prop := ∀ x ∈ xs, -1500 ≤ x ∧ x ≤ 1500
theorem Tight.set {xs : List Int} (h : Tight xs) (j : Nat) {y : Int} (hy : -1500 ≤ y ∧ y ≤ 1500) : Tight (xs.set j y) := by
  intro x hx
  rcases List.mem_or_eq_of_mem_set hx with h' | h'
  · exact h x h'
  · exact h' ▸ hy
/-- all of it within bounds -/
def Small (xs : List Int) : Prop := ∀ x ∈ xs, -2000 ≤ x ∧ x ≤ 2000
theorem Small.set {xs : List Int} (h : Small xs) (j : Nat) {y : Int} (hy : -2000 ≤ y ∧ y ≤ 2000) : Small (xs.set j y) := by
  intro x hx
  rcases List.mem_or_eq_of_mem_set hx with h' | h'
  · exact h x h'
  · exact h' ▸ hy
theorem Tight.small {xs : List Int} (h : Tight xs) : Small xs := fun x hx => by have := h x hx; omega
/-- a slice that reads as a list, no cell of it in block r -/
def Away (w : World) (r : Nat) (A : Option Addr) (xs : List Int) : Prop := xs ≠ [] → ∃ b off, A = some ⟨b, off, none⟩ ∧ b ≠ r ∧ b < w.heap.size ∧ ∀ k x, xs[k]? = some x → w.cell? ⟨b, off + k, none⟩ = some (.int .i64 x)
theorem Away.ints {w : World} {r : Nat} {A : Option Addr} {xs : List Int} (h : Away w r A xs) : Ints w A xs := fun hn => by
  obtain ⟨b, off, e, _, hb, hc⟩ := h hn
  exact ⟨b, off, e, hb, hc⟩
theorem Away.grown {w w' : World} {r : Nat} {A : Option Addr} {xs : List Int} (h : Away w r A xs) (hg : w.grownBy w' (some r)) : Away w' r A xs := fun hn => by
  obtain ⟨b, off, e, hne, hb, hc⟩ := h hn
  exact ⟨b, off, e, hne, Nat.lt_of_lt_of_le hb hg.size, fun k x hk => (hg.cell_far ⟨b, off + k, none⟩ hb (fun e => hne (Option.some.inj e))).trans (hc k x hk)⟩
theorem Away.below {w w' : World} {r : Nat} {A : Option Addr} {xs : List Int} (h : Away w r A xs) (hg : Below w.heap.size w w') : Away w' r A xs := fun hn => by
  obtain ⟨b, off, e, hne, hb, hc⟩ := h hn
  exact ⟨b, off, e, hne, Nat.lt_of_lt_of_le hb hg.size, fun k x hk => (hg.cell hb).trans (hc k x hk)⟩

theorem Away.nil (w : World) (r : Nat) (A : Option Addr) : Away w r A [] := fun h => absurd rfl h
theorem Seg.away {w : World} {B g off cap r : Nat} {xs : List Int} {cur : Array Value} (h : Seg w B g off cap xs cur) (hr : r < B) : Away w r (some ⟨g, off, none⟩) xs :=
  fun _ => ⟨g, off, rfl, by have := h.lo; omega, h.blk.lt, fun k x hk => (h.blk.cell (off + k)).trans (h.at_ k x hk)⟩
end Go.Proofs.Ytdpfnhkhojiddaa
namespace Go.Proofs.Ytdpfnhkhojiddaa
open Go.RowKit

theorem Ints.away {w w' : World} {A : Option Addr} {xs : List Int} {g : Nat} (h : Ints w A xs) (hb : Below w.heap.size w w') (hg : w.heap.size ≤ g) : Away w' g A xs := by
  intro hn
  obtain ⟨b, off, e, hlt, hc⟩ := h hn
  exact ⟨b, off, e, by omega, Nat.lt_of_lt_of_le hlt hb.size, fun k x hk => (hb.cell (p := ⟨b, off + k, none⟩) hlt).trans (hc k x hk)⟩

set_option maxHeartbeats 400000 in
theorem slices_Index (A : Option Addr) (cap : Nat) (xs : List Int) (z : Int) (w : World) (h : Ints w A xs) (hl : xs.length ≤ maxLen) :
    Calls Try.prog 54 #[.slice A xs.length cap, .int .i64 z] w fun e w' => ∃ i : Int, e = .returned (.int .i64 i) ∧ ((0 ≤ i) ↔ (z ∈ xs)) ∧ w = w' := by
  unfold maxLen at hl
  go_enter Try.func54, Try.ntmps54
  go_wp2_with fail
  go_loop [5, 8] (fun s5 s8 => ∃ k : Nat, k ≤ xs.length ∧ s8 = .int .i64 k ∧ Hid ((z ∈ xs) ↔ (z ∈ xs.drop k))) (fun _ s8 => xs.length - (intOf s8).toNat)
  case atStart => exact ⟨0, Nat.zero_le _, rfl, by show _ ↔ _; simp⟩
  case round =>
    obtain ⟨k, hk, rfl, H⟩ := hrel
    by_cases hlt : k < xs.length
    · obtain ⟨b, off, y, rfl, _, HX, hc, _⟩ := h.at_ hlt
      have k1 : (k : Int) < (xs.length : Int) := by omega
      by_cases q : z = y
      · have d : (z == y) = true := by rw [beq_iff_eq]; exact q
        have hm : z ∈ xs := by rw [H.out, HX.out, q]; simp
        have HM := Lib.hid hm
        clear q hm
        go_wp2_with fail
        go_ret
        exact ⟨k, rfl, ⟨fun _ => HM.out, fun _ => by omega⟩, rfl⟩
      · have d : (z == y) = false := by rw [beq_eq_false_iff_ne]; exact q
        have H2 : Hid ((z ∈ xs) ↔ (z ∈ xs.drop (k + 1))) := by
          show _ ↔ _
          rw [H.out, HX.out, List.mem_cons]
          exact ⟨fun e => e.resolve_left q, Or.inr⟩
        clear q
        go_wp2_with fail
        go_round
        case rel => exact ⟨k + 1, by omega, by go_num, H2⟩
        case measure => simp [intOf]; omega
    · obtain rfl : k = xs.length := by omega
      have hm : ¬ z ∈ xs := by rw [H.out]; simp
      have HM := Lib.hid hm
      clear hm
      go_wp2_with fail
      go_ret
      exact ⟨-1, rfl, ⟨fun h => by omega, fun h => absurd h HM.out⟩, rfl⟩
theorem slices_Contains (A : Option Addr) (cap : Nat) (xs : List Int) (z : Int) (w : World) (h : Ints w A xs) (hl : xs.length ≤ maxLen) :
    Calls Try.prog 49 #[.slice A xs.length cap, .int .i64 z] w fun e w' => e = .returned (.bool (decide (z ∈ xs))) ∧ w = w' := by
  go_enter Try.func49, Try.ntmps49
  go_wp2_with fail
  refine (slices_Index A cap xs z w h hl).mono ?_
  rintro e w' ⟨i, rfl, hi, rfl⟩
  have hd : decide (0 ≤ i) = decide (z ∈ xs) := by rw [Bool.eq_iff_iff]; simp [hi]
  have HD := Lib.hid hd
  clear hi hd
  go_wp2_with fail
  go_ret
  exact ⟨by rw [← HD.out]; rfl, rfl⟩

/-- a row of ten numbers -/
def rowF (f : Nat → Int) : List Int := (List.range 10).map f
theorem rowF_len (f : Nat → Int) : (rowF f).length = 10 := by simp [rowF]
theorem rowF_get (f : Nat → Int) {k : Nat} (h : k < 10) : (rowF f)[k]? = some (f k) := by simp [rowF, h]
theorem rowF_set (f : Nat → Int) {k : Nat} (v : Int) : (rowF f).set k v = rowF (fun j => if j = k then v else f j) := by
  apply List.ext_getElem?
  intro j
  rw [List.getElem?_set]
  by_cases hj : j < 10
  · rw [rowF_get _ hj, rowF_get _ hj, rowF_len]
    by_cases e : k = j
    · rw [if_pos e, if_pos (by omega), if_pos e.symm]
    · rw [if_neg e, if_neg (fun e2 => e e2.symm)]
  · rw [List.getElem?_eq_none (by rw [rowF_len]; omega), List.getElem?_eq_none (by rw [rowF_len]; omega)]
    split
    · rw [if_neg (by rw [rowF_len]; omega)]
    · rfl
theorem rowF_congr {f g : Nat → Int} (h : ∀ k, k < 10 → f k = g k) : rowF f = rowF g := by
  unfold rowF
  exact List.map_congr_left fun k hk => h k (List.mem_range.1 hk)
/-- f, with one more at each of the numbers cs -/
def bump (f : Nat → Int) (cs : List Int) (k : Nat) : Int := f k + (if (k : Int) ∈ cs then 1 else 0)
abbrev Row10 (w : World) (B g : Nat) (f : Nat → Int) : Prop := w.ownsRow B 3 1 (.slice (some ⟨g, 0, none⟩) 10 10) 10 ((rowF f).map (Value.int .i64))
theorem map_set_int (l : List Int) (k : Nat) (v : Int) : (l.map (Value.int .i64)).set k (.int .i64 v) = (l.set k v).map (Value.int .i64) := by simp [List.map_set]

set_option maxHeartbeats 2000000 in
theorem impl_addUses (A1 A2 : Option Addr) (c1 c2 n1 : Nat) (cs : List Int) (f : Nat → Int) (B g : Nat) (w : World) (h : Away w g A2 cs) (hl : cs.length ≤ 1000000) (hcap : cs.length ≤ c2) (hr : Row10 w B g f) (hf : ∀ k, k < 10 → 0 ≤ f k ∧ f k ≤ 1000000) (_hB : B ≤ g) (hgs : g < w.heap.size) :
    Calls Try.prog 46 #[.agg #[.slice A1 n1 c1, .slice A2 cs.length c2], .slice (some ⟨g, 0, none⟩) 10 10] w fun e w' => e = .returned (.bool (crB cs)) ∧ (∃ f', Row10 w' B g f' ∧ (crB cs = true → ∀ k, k < 10 → f' k = bump f cs k)) ∧ w.grownBy w' (some g) := by
  have HF := Lib.hid hf
  clear hf
  obtain ⟨w1, hw1⟩ : ∃ w1, w1 = w.alloc (.cells #[.slice A1 n1 c1, .slice A2 cs.length c2] 31) := ⟨_, rfl⟩
  have hb1 : Below w.heap.size w w1 := by rw [hw1]; exact (Below.refl _ _).alloc (Nat.le_refl _) _
  have hblk : Blk w1 w.heap.size 31 #[.slice A1 n1 c1, .slice A2 cs.length c2] := by rw [hw1]; exact Blk.new w _ _
  have hg1 : w.grownBy w1 (some g) := by rw [hw1]; exact ⟨rfl, rfl, rfl, by simp, fun k hk _ => Below.heap_alloc w _ k hk⟩
  have hr1 : Row10 w1 B g f := by rw [hw1]; exact hr.alloc _
  have h1 := h.below hb1
  have H1 := Lib.hid h1
  have HR1 := Lib.hid hr1
  have HG1 := Lib.hid hg1
  have HBlk := Lib.hid hblk
  go_enter Try.func46, Try.ntmps46
  go_wp2_with fail
  rw [← hw1]
  have hsz := hb1.size
  have hs1 : w.heap.size < w1.heap.size := hblk.lt
  clear hw1 hb1 hg1 hr1 h1 hr h hblk
  have e1 := HBlk.out.cell 1
  go_wp2_with fail
  go_loopg [5, 6, 10] (cs.length + 1) (fun gg s5 s6 s10 wr => ∃ (j : Nat) (f' : Nat → Int), j ≤ cs.length ∧ s10 = .int .i64 j ∧ cs.length - j < gg ∧ Hid (crGo (cs.take j) (cs.drop j) = crB cs) ∧ Hid (Row10 wr B g f') ∧ Hid (∀ k, k < 10 → f' k = bump f (cs.take j) k) ∧ Hid (w.grownBy wr (some g)) ∧ Hid (Blk wr w.heap.size 31 #[.slice A1 n1 c1, .slice A2 cs.length c2]) ∧ Hid (Away wr g A2 cs))
  case atStart => exact ⟨0, f, Nat.zero_le _, rfl, by omega, rfl, HR1, (fun k _ => by simp [bump]), HG1, HBlk, H1⟩
  case round =>
    clear HR1 HG1 HBlk H1 e1 hs1 hsz
    obtain ⟨j, f', hj, rfl, hgg, HC, HR, HFj, HG, HB, HA⟩ := hrel
    cases gk with
    | zero => omega
    | succ gg =>
    have e1 := HB.out.cell 1
    by_cases hlt : j < cs.length
    · obtain ⟨b, off, y, rfl, hbw, HX, hcy, hym⟩ := HA.out.ints.at_ hlt
      have hcut : Ints wr (some ⟨b, off, none⟩) (cs.take j) := by have := HA.out.ints.cut 0 j; simpa using this
      have htl : (cs.take j).length = j := by rw [List.length_take]; omega
      have hcont : Calls Try.prog 49 #[.slice (some ⟨b, off, none⟩) j c2, .int .i64 y] wr fun e w' => e = .returned (.bool (decide (y ∈ cs.take j))) ∧ wr = w' := by
        have := slices_Contains (some ⟨b, off, none⟩) c2 (cs.take j) y wr hcut (by unfold maxLen; omega)
        rwa [htl] at this
      have HCONT := Lib.hid hcont
      have j1 : (j : Int) < (cs.length : Int) := by omega
      have j0 : (0 : Int) ≤ (j : Int) := by omega
      have j2 : (j : Int) ≤ (c2 : Int) := by omega
      have hgo : crGo (cs.take j) (y :: cs.drop (j + 1)) = crB cs := by rw [← HX.out]; exact HC.out
      have HGO := Lib.hid hgo
      have HG2 := HG.out
      clear hcut htl hcont hgo
      by_cases y0 : y < 0
      · have d0 : decide (y < 0) = true := by simp; omega
        have hfin : crB cs = false := by rw [← HGO.out, crGo, if_pos y0]
        have HFin := Lib.hid hfin
        clear hfin hym
        go_wp2_with fail
        go_ret
        exact ⟨ret_bool HFin.out.symm, ⟨f', HR.out, fun h => by rw [HFin.out] at h; cases h⟩, HG2⟩
      · have d0 : decide (y < 0) = false := by simp; omega
        by_cases y9 : 9 < y
        · have d9 : decide ((10 : Int) ≤ y) = true := by simp; omega
          have hfin : crB cs = false := by rw [← HGO.out, crGo, if_neg y0, if_pos y9]
          have HFin := Lib.hid hfin
          clear hfin hym
          go_wp2_with fail
          go_ret
          exact ⟨ret_bool HFin.out.symm, ⟨f', HR.out, fun h => by rw [HFin.out] at h; cases h⟩, HG2⟩
        · have d9 : decide ((10 : Int) ≤ y) = false := by simp; omega
          by_cases ym : y ∈ cs.take j
          · have hfin : crB cs = false := by rw [← HGO.out, crGo, if_neg y0, if_neg y9, if_pos ym]
            have HFin := Lib.hid hfin
            have HYM := Lib.hid ym
            clear hfin hym ym
            go_wp2_with fail
            refine HCONT.out.mono ?_
            rintro e w' ⟨rfl, rfl⟩
            rw [decide_eq_true HYM.out]
            go_wp2_with fail
            go_ret
            exact ⟨ret_bool HFin.out.symm, ⟨f', HR.out, fun h => by rw [HFin.out] at h; cases h⟩, HG2⟩
          · obtain ⟨m, rfl⟩ : ∃ m : Nat, y = (m : Int) := ⟨y.toNat, by omega⟩
            have m10 : m < 10 := by omega
            have c10 := HR.out.cellAt m (by omega)
            rw [List.getElem?_map, rowF_get f' m10] at c10
            have f10 := HR.out.frozenAt m
            have hfm := HFj.out m m10
            have hbm : bump f (cs.take j) m = f m := by unfold bump; rw [if_neg ym]; omega
            have hfb := HF.out m m10
            have st := HR.out.stored m (.int .i64 (f' m + 1))
            rw [map_set_int, rowF_set] at st
            have hst2 : ∀ k, k < 10 → (if k = m then f' m + 1 else f' k) = bump f (cs.take (j + 1)) k := by
              intro k hk
              have htk : cs.take (j + 1) = cs.take j ++ [(m : Int)] := by
                rw [List.take_succ_eq_append_getElem hlt]
                congr 2
                have h3 := List.drop_eq_getElem_cons hlt
                rw [HX.out] at h3
                injection h3 with h3
                exact h3.symm
              rw [htk]
              unfold bump
              by_cases e : k = m
              · subst e
                rw [if_pos rfl, if_pos (by simp), hfm, hbm]
              · rw [if_neg e, HFj.out k hk]
                unfold bump
                have hkm : ¬ (k : Int) = (m : Int) := by omega
                simp only [List.mem_append, List.mem_singleton, hkm, or_false]
            have hcg : crGo (cs.take (j + 1)) (cs.drop (j + 1)) = crB cs := by
              have htk : cs.take (j + 1) = cs.take j ++ [(m : Int)] := by
                rw [List.take_succ_eq_append_getElem hlt]
                congr 2
                have h3 := List.drop_eq_getElem_cons hlt
                rw [HX.out] at h3
                injection h3 with h3
                exact h3.symm
              rw [htk, ← HGO.out, crGo, if_neg y0, if_neg y9, if_neg ym]
            have hfval : 0 ≤ f' m ∧ f' m ≤ 1000000 := by rw [hfm, hbm]; exact hfb
            obtain ⟨v, hv⟩ : ∃ v, v = f' m := ⟨_, rfl⟩
            rw [← hv] at st hst2 hfval
            have c10' : wr.cell? ⟨g, m, none⟩ = some (.int .i64 v) := by rw [hv]; simpa using c10
            have hb3 : wr.grownBy (wr.setCell ⟨g, m, none⟩ (.int .i64 (v + 1))) (some g) := ⟨rfl, rfl, rfl, by simp, fun k _ hk => heap_setCell_other wr ⟨g, m, none⟩ k _ (fun e => hk (by have e' : k = g := e; rw [e']))⟩
            have ST := Lib.hid st.1
            have HF2 := Lib.hid hst2
            have HCG := Lib.hid hcg
            have HG3 := Lib.hid (HG2.trans hb3)
            have hne : w.heap.size ≠ g := by omega
            have HB3 := Lib.hid (HB.out.far (p := ⟨g, m, none⟩) hne (.int .i64 (v + 1)))
            have HA3 := Lib.hid (HA.out.grown hb3)
            have HYM := Lib.hid ym
            obtain ⟨hv0, hv1⟩ := hfval
            have m1 : (m : Int) < 10 := by omega
            have m0 : (0 : Int) ≤ (m : Int) := by omega
            clear st hst2 hcg hb3 hne HG HG2 HA HB HR HFj c10 hfm hbm hfb hv hym ym HC HGO
            go_wp2_with fail
            refine HCONT.out.mono ?_
            rintro e w' ⟨rfl, rfl⟩
            rw [decide_eq_false HYM.out]
            go_wp2_with fail
            go_roundg gg
            case measure => omega
            case rel => exact ⟨j + 1, _, by omega, by go_num, by omega, HCG, ST, HF2, HG3, HB3, HA3⟩
    · obtain rfl : j = cs.length := by omega
      have hfin : crB cs = true := by rw [← HC.out, List.drop_length, List.take_length]; rfl
      have HFin := Lib.hid hfin
      clear hfin
      go_wp2_with fail
      go_ret
      exact ⟨ret_bool HFin.out.symm, ⟨f', HR.out, fun _ k hk => by have := HFj.out k hk; rwa [List.take_length] at this⟩, HG.out⟩
end Go.Proofs.Ytdpfnhkhojiddaa
namespace Go.Proofs.Ytdpfnhkhojiddaa
open Go.RowKit


def inAll (lo hi : Int) : List Int → Bool
  | [] => true
  | x :: r => if inB x lo hi then inAll lo hi r else false
theorem inAll_eq (lo hi : Int) (l : List Int) : l.all (fun x => decide (lo ≤ x) && decide (x ≤ hi)) = inAll lo hi l := by
  induction l with
  | nil => rfl
  | cons x r ih =>
    rw [List.all_cons, ih, inAll]
    show (inB x lo hi && _) = _
    cases inB x lo hi <;> rfl


end Go.Proofs.Ytdpfnhkhojiddaa
namespace Go.Proofs.Ytdpfnhkhojiddaa
open Go.RowKit




def leastGo : Int → List Int → Int
  | m, [] => m
  | m, x :: r => leastGo (if x < m then x else m) r

end Go.Proofs.Ytdpfnhkhojiddaa
namespace Go.Proofs.Ytdpfnhkhojiddaa
open Go.RowKit

theorem mem_drop_yes {l r : List Int} {k : Nat} {y : Int} (h : l.drop k = y :: r) : y ∈ l := by
  have : y ∈ l.drop k := by rw [h]; simp
  exact List.mem_of_mem_drop this



end Go.Proofs.Ytdpfnhkhojiddaa
namespace Go.Proofs.Ytdpfnhkhojiddaa
open Go.RowKit

theorem vtxB_bd {v : Vx} (h : vtxB v = true) : acB v.1 = true ∧ v.2.length = v.1.length ∧ v.2.length ≤ 10 ∧ 2 ≤ v.2.length ∧ ∀ x ∈ v.2, 0 ≤ x ∧ x ≤ 9 := by
  unfold vtxB at h
  simp only [Bool.and_eq_true, decide_eq_true_eq] at h
  obtain ⟨⟨h1, h2⟩, h3⟩ := h
  have ha := h1
  unfold acB at ha
  simp only [Bool.and_eq_true] at ha
  have hp := avB_parts ha.1
  exact ⟨h1, h2, by omega, by omega, ((crB_iff _).1 h3).1⟩


theorem ncr_bd {vs : List Vx} (h : vs.all vtxB = true) : 0 ≤ ncr vs ∧ ncr vs ≤ 10 := by
  rw [List.all_eq_true] at h
  have h1 := (ncGo_le 0 vs).1
  refine ⟨h1, ?_⟩
  rcases ncGo_is 0 vs with e | ⟨v, hv, x, hx, e⟩
  · unfold ncr; rw [e]; decide
  · have := (vtxB_bd (h v hv)).2.2.2.2 x hx
    unfold ncr; rw [e]; omega
def allGo : List Vx → Bool
  | [] => true
  | v :: r => if vtxB v = true then allGo r else false
theorem allGo_eq (vs : List Vx) : vs.all vtxB = allGo vs := by
  induction vs with
  | nil => rfl
  | cons v r ih =>
    rw [List.all_cons, allGo, ih]
    cases vtxB v <;> rfl
theorem usesOk_no {vs : List Vx} {n k : Nat} (hk : k < n) (h : (decide (1 ≤ useN vs k) && decide (useN vs k ≤ 2)) = false) : usesOk vs n = false := by
  induction n with
  | zero => omega
  | succ n ih =>
    rw [usesOk]
    by_cases e : k = n
    · rw [← e, h, Bool.and_false]
    · rw [ih (by omega), Bool.false_and]

end Go.Proofs.Ytdpfnhkhojiddaa
