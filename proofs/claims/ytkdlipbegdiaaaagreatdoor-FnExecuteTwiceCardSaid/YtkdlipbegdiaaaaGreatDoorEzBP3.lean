/- The drawn texts: 'l91Text', 'l91Any'. No condition but sizes. append of a slice of integers, nil or not, to a row of the call's own; a cut of a slice that reads as a list. No condition. A slice of integers anywhere in a block that the call made: its tail, one element more. No condition. The program's tests of angles, folds and lengths. No condition but sizes. The program's 'crimps': the list of the indexes at which 'allowed' answers yes. No condition. -/
import Derived.Test.YtkdlipbegdiaaaaGreatDoorEzBP2
import Derived.Deep.RegionLaw
import Derived.Deep.RegionHeld3
import Derived.ArgAppend
import Derived.Test.YtkdlipbegdiaaaaGreatDoorEzBP0
namespace Go.Proofs.YtkdlipbegdiaaaaGreatDoor
open Go.RowKit
theorem Rd.far {w : World} {r : Nat} {A : Option Addr} {cap : Nat} {bs : List UInt8} {q : Nat} (h : Rd w r A cap bs q) (o : Obj) : Rd (w.alloc o) r A cap bs q :=
  h.below ((Below.refl w.heap.size w).alloc (Nat.le_refl _) o) h.blk.lt
theorem grown_alloc (w : World) (o : Obj) (row : Option Nat) : w.grownBy (w.alloc o) row :=
  ⟨rfl, rfl, rfl, by simp, fun k hk _ => Below.heap_alloc w o k hk⟩
set_option maxHeartbeats 1000000 in
theorem spec_l91Text (w : World) (r : Nat) (A : Option Addr) (cap : Nat) (bs : List UInt8) (q n : Nat) (h : Rd w r A cap bs q) (hq : q ≤ 900000) (hn : n ≤ 1000) :
    Calls Tryz.prog 37 #[ptr r, .int .i64 n] w fun e w' => ∃ s : ByteArray, e = .returned (.string s) ∧ s.size = n ∧ Rd w' r A cap bs (q + n) ∧ w.grownBy w' (some r) := by
  go_enter Tryz.func37, Tryz.ntmps37
  go_wp2_with fail
  go_loopg [5, 6] (n + 1) (fun g s5 s6 wr => ∃ (i : Nat) (t : ByteArray), i ≤ n ∧ s6 = .int .i64 i ∧ s5 = .string t ∧ t.size ≤ i ∧ Hid (t.size = i) ∧ n - i < g ∧ Rd wr r A cap bs (q + i) ∧ w.grownBy wr (some r))
  case atStart => exact ⟨0, _, Nat.zero_le _, rfl, rfl, Nat.le_refl _, rfl, by omega, h, World.grownBy.refl w _⟩
  case round =>
    obtain ⟨i, t, hi, rfl, rfl, hts, HT, hg, R, hgr⟩ := hrel
    cases gk with
    | zero => omega
    | succ g =>
    by_cases hlt : i < n
    · have hrl := R.blk.lt
      have R2 := R.far (.cells #[.string ⟨#[77]⟩, .string ⟨#[86]⟩] 9)
      have hgr2 := hgr.trans (grown_alloc wr (.cells #[.string ⟨#[77]⟩, .string ⟨#[86]⟩] 9) (some r))
      have hcell : ∀ k s, [ByteArray.mk #[77], ByteArray.mk #[86]][k]? = some s → (wr.alloc (.cells #[.string ⟨#[77]⟩, .string ⟨#[86]⟩] 9)).cell? ⟨wr.heap.size, k, none⟩ = some (.string s) := by
        intro k s hk
        rw [(Blk.new wr 9 #[.string ⟨#[77]⟩, .string ⟨#[86]⟩]).cell k]
        match k, hk with
        | 0, hk => cases hk; rfl
        | 1, hk => cases hk; rfl
      clear R hgr
      go_wp2_with fail
      refine (spec_of _ r A cap bs (q + i) wr.heap.size 2 [ByteArray.mk #[77], ByteArray.mk #[86]] R2 (by omega) (by decide) (by decide) (by omega) (by simp) hcell).mono ?_
      rintro e w1 ⟨s, hs, rfl, R3, hgr3⟩
      have hgr4 := hgr2.trans hgr3
      have hs1 : s.size = 1 := by
        simp at hs
        rcases hs with rfl | rfl <;> rfl
      have h63 : t.size + s.size ≤ 9223372036854775807 := by omega
      have b12 : ∀ W, (Op.stringOp .add t s).run Tryz.prog W = .ok (.string (t ++ s)) W := fun W => run_string_add_sum W _ _ h63
      have HS := Lib.hid hs1
      clear hs hcell hs1 h63 hgr2 hgr3
      go_wp2_with fail
      go_roundg g
      case measure => omega
      case rel => exact ⟨i + 1, t ++ s, by omega, by go_num, rfl, by rw [ByteArray.size_append, HS.out]; omega, by show _ = _; rw [ByteArray.size_append, HS.out, HT.out], by omega, R3, hgr4⟩
    · obtain rfl : i = n := by omega
      go_wp2_with fail
      go_ret
      exact ⟨t, rfl, HT.out, R, hgr⟩
set_option maxHeartbeats 1000000 in
theorem spec_l91Any (w : World) (r : Nat) (A : Option Addr) (cap : Nat) (bs : List UInt8) (q : Nat) (h : Rd w r A cap bs q) (hq : q ≤ 800000) :
    Calls Tryz.prog 61 #[ptr r] w fun e w' => ∃ (s : ByteArray) (q' : Nat), e = .returned (.string s) ∧ s.size ≤ 8 ∧ q' ≤ q + 10 ∧ Rd w' r A cap bs q' ∧ w.grownBy w' (some r) := by
  go_enter Tryz.func61, Tryz.ntmps61
  go_wp2_with fail
  refine (spec_pick w r A cap bs q 8 h (by omega) (by omega)).mono ?_
  rintro e w1 ⟨n, rfl, hn, R1, g1⟩
  go_wp2_with fail
  refine (spec_l91Text w1 r A cap bs (q + 1) n R1 (by omega) (by omega)).mono ?_
  rintro e w2 ⟨t, rfl, ht, R2, g2⟩
  have G2 := g1.trans g2
  have HT := Lib.hid ht
  have hts : t.size ≤ 7 := by omega
  clear ht R1 g1 g2
  go_wp2_with fail
  refine (spec_pick w2 r A cap bs (q + 1 + n) 4 R2 (by omega) (by omega)).mono ?_
  rintro e w3 ⟨m, rfl, hm, R3, g3⟩
  have G3 := G2.trans g3
  clear G2 g3 R2 hm
  by_cases m0 : m = 0
  · subst m0
    have hrl := R3.blk.lt
    have R4 := R3.far (.cells #[.string ⟨#[120]⟩, .string ⟨#[109]⟩, .string ⟨#[32]⟩, .string ⟨#[86]⟩] 9)
    have G4 := G3.trans (grown_alloc w3 (.cells #[.string ⟨#[120]⟩, .string ⟨#[109]⟩, .string ⟨#[32]⟩, .string ⟨#[86]⟩] 9) (some r))
    have hcell : ∀ k s, [ByteArray.mk #[120], ByteArray.mk #[109], ByteArray.mk #[32], ByteArray.mk #[86]][k]? = some s → (w3.alloc (.cells #[.string ⟨#[120]⟩, .string ⟨#[109]⟩, .string ⟨#[32]⟩, .string ⟨#[86]⟩] 9)).cell? ⟨w3.heap.size, k, none⟩ = some (.string s) := by
      intro k s hk
      rw [(Blk.new w3 9 #[.string ⟨#[120]⟩, .string ⟨#[109]⟩, .string ⟨#[32]⟩, .string ⟨#[86]⟩]).cell k]
      match k, hk with
      | 0, hk => cases hk; rfl
      | 1, hk => cases hk; rfl
      | 2, hk => cases hk; rfl
      | 3, hk => cases hk; rfl
    clear R3 G3
    go_wp2_with fail
    refine (spec_of _ r A cap bs (q + 1 + n + 1) w3.heap.size 4 [ByteArray.mk #[120], ByteArray.mk #[109], ByteArray.mk #[32], ByteArray.mk #[86]] R4 (by omega) (by decide) (by decide) (by omega) (by simp) hcell).mono ?_
    rintro e w5 ⟨s, hs, rfl, R5, g5⟩
    have G5 := G4.trans g5
    have hs1 : s.size = 1 := by
      simp at hs
      rcases hs with rfl | rfl | rfl | rfl <;> rfl
    have h63 : t.size + s.size ≤ 9223372036854775807 := by omega
    have b12 : ∀ W, (Op.stringOp .add t s).run Tryz.prog W = .ok (.string (t ++ s)) W := fun W => run_string_add_sum W _ _ h63
    have HS := Lib.hid hs1
    clear hs hcell hs1 h63 G4 g5
    go_wp2_with fail
    go_ret
    exact ⟨t ++ s, _, rfl, by rw [ByteArray.size_append, HS.out]; omega, by omega, R5, G5⟩
  · have d1 : ((m : Int) == 0) = false := by rw [beq_eq_false_iff_ne]; omega
    go_wp2_with fail
    go_ret
    exact ⟨t, _, rfl, by omega, by omega, R3, G3⟩
end Go.Proofs.YtkdlipbegdiaaaaGreatDoor
namespace Go.Proofs.YtkdlipbegdiaaaaGreatDoor
open Go.RowKit
theorem run_app_nil {P : Program} (w : World) (B : Nat) (t ty e : TypeId) (i : TypeInfo) (size : Nat) (ht : P.underlying t = some (.slice e)) (hi : P.info? e = some i)
    (v : Value) (n : Nat) (xs : List Value) (hown : w.ownsRow B e size v n xs) (c : Nat) : (Builtin.append_ #[t, t] ty #[v, .slice none 0 c]).run P w = .ok v w := by
  rcases hown.2 with ⟨rfl, rfl⟩ | ⟨g, cap, cur, rfl, _, _, hnc, _⟩
  · simp [Builtin.append_, run_underlying ht, sizeOf, typeInfo, hi, Builtin.lenOf, Builtin.firstCells]
  · simp [Builtin.append_, run_underlying ht, sizeOf, typeInfo, hi, Builtin.lenOf, Builtin.firstCells, hnc, storeCells]
theorem run_app (W : World) (B : Nat) (ty : TypeId) (v : Value) (xs ys : List Int) (A : Option Addr) (c : Nat) (hown : Own W B v xs) (hr : Ints W A ys) (hB : B ≤ W.heap.size)
    (hn : xs.length + ys.length ≤ 1000000000000) :
    ∃ v' w', (Builtin.append_ #[23, 23] ty #[v, .slice A ys.length c]).run Tryz.prog W = .ok v' w' ∧ Own w' B v' (xs ++ ys) ∧ W.grownBy w' v.ownBlock ∧ Below B W w' := by
  obtain ⟨i0, hi, hz0, hz1, hz2⟩ := info_parts Tryz.infoInt
  cases A with
  | none =>
    have hy : ys = [] := by
      apply Classical.byContradiction
      intro hne
      obtain ⟨b, off, e, _⟩ := hr hne
      cases e
    subst hy
    exact ⟨v, W, run_app_nil W B _ ty _ i0 1 Tryz.underlying23 hi v _ _ hown c, by simpa using hown, World.grownBy.refl W _, Below.refl _ _⟩
  | some ad =>
    obtain ⟨v', w', hrun, h2, h3, _⟩ := run_append_own (P := Tryz.prog) W B 23 ty 3 i0 (.int .i64 0) 1 8 Tryz.underlying23 hi hz0 hz1 hz2 rfl (by decide) v _ _ hown ad ys.length c (ys.map (Value.int .i64))
      (by simp) (by
        intro j u hu
        have hne : ys ≠ [] := by intro e; subst e; simp at hu
        obtain ⟨b, off, e, _, hc⟩ := hr hne
        have e2 : ad = ⟨b, off, none⟩ := Option.some.inj e
        rw [List.getElem?_map] at hu
        cases hy : ys[j]? with
        | none => simp only [hy, Option.map_none, reduceCtorEq] at hu
        | some y =>
          simp only [hy, Option.map_some, Option.some.injEq] at hu
          rw [← hu, e2, Addr.add_lit]
          exact hc j y hy) (ints_oneCell _ _) (by unfold maxLen; omega) (by omega) hB
    exact ⟨v', w', hrun, by simpa [Own] using h2, h3, (Below.refl _ _).grown h3 hB fun k hk => (hown.lt k hk).1⟩
theorem wp_app {o : Oper} {a : Act} {W : World} {K : Act → World → Prop} {Q : Exit → Act → World → Prop} (s x : Operand)
    (ho : o.op = .call { callee := .builtin .append, args := #[s, x], argTypes := #[23, 23] })
    (B : Nat) (v : Value) (xs ys : List Int) (A : Option Addr) (c : Nat) (hs : a.eval s = v) (m : Nat) (hm : ys.length = m) (hx : a.eval x = .slice A m c) (hown : Own W B v xs) (hr : Ints W A ys) (hB : B ≤ W.heap.size)
    (hn : xs.length + ys.length ≤ 1000000000000)
    (h : ∀ v' w', Own w' B v' (xs ++ ys) → W.grownBy w' v.ownBlock → Below B W w' → K (a.put o.dst v') w') : o.wp Tryz.prog a W K Q := by
  subst hm
  obtain ⟨v', w', hrun, h2, h3, h4⟩ := run_app W B o.type v xs ys A c hown hr hB hn
  unfold Oper.wp execOp
  simp only [ho, resolve, invoke, builtin, Sem.run_bind, Sem.run_pure, Result.andThen_ok, List.map_toArray, List.map_cons, List.map_nil, hs, hx, hrun]
  exact h v' w' h2 h3 h4
theorem wpList_app {ops : Array Oper} {rest : List Oper} {o : Oper} {a : Act} {W : World} {Q : Exit → Act → World → Prop} (hgd : o.guard = none) (s x : Operand)
    (ho : o.op = .call { callee := .builtin .append, args := #[s, x], argTypes := #[23, 23] })
    (B : Nat) (v : Value) (xs ys : List Int) (A : Option Addr) (c : Nat) (hs : a.eval s = v) (m : Nat) (hm : ys.length = m) (hx : a.eval x = .slice A m c) (hown : Own W B v xs) (hr : Ints W A ys) (hB : B ≤ W.heap.size)
    (hn : xs.length + ys.length ≤ 1000000000000)
    (h : ∀ v' w', Own w' B v' (xs ++ ys) → W.grownBy w' v.ownBlock → Below B W w' → wpList Tryz.prog ops Q rest (a.put o.dst v') w') : wpList Tryz.prog ops Q (o :: rest) a W :=
  wpList_plain hgd fun _ hK => wp_app s x ho B v xs ys A c hs m hm hx hown hr hB hn fun v' w' h2 h3 h4 => hK _ _ (h v' w' h2 h3 h4)
theorem step_app {ops : Array Oper} {o : Oper} {a : Act} {W : World} {K : Act → World → Prop} {Q : Exit → Act → World → Prop} {E : Prop} (hgd : o.guard = none) (s x : Operand)
    (ho : o.op = .call { callee := .builtin .append, args := #[s, x], argTypes := #[23, 23] })
    (B : Nat) (v : Value) (xs ys : List Int) (A : Option Addr) (c : Nat) (hs : a.eval s = v) (m : Nat) (hm : ys.length = m) (hx : a.eval x = .slice A m c) (hown : Own W B v xs) (hr : Ints W A ys) (hB : B ≤ W.heap.size)
    (hn : xs.length + ys.length ≤ 1000000000000)
    (h : ∀ v' w', Own w' B v' (xs ++ ys) → W.grownBy w' v.ownBlock → Below B W w' → K (a.put o.dst v') w') :
    if Region.wanted o (yielded ops a.tmps) = true then Oper.wp Tryz.prog o a W K Q else E := by
  have hw : Region.wanted o (yielded ops a.tmps) = true := by simp [Region.wanted, hgd]
  rw [if_pos hw]
  exact wp_app s x ho B v xs ys A c hs m hm hx hown hr hB hn h
theorem own_one (w : World) {B : Nat} (z : Int) (hB : B ≤ w.heap.size) : Own (w.alloc (.cells #[.int .i64 z] 3)) B (.slice (some ⟨w.heap.size, 0, none⟩) 1 1) [z] :=
  World.ownsRow_lit w #[.int .i64 z] 1 hB (by unfold maxLen; omega) rfl
/-- a cut of a slice that reads as a list, its address written out -/
theorem Ints.cut {w : World} {b off : Nat} {xs : List Int} (h : Ints w (some ⟨b, off, none⟩) xs) (lo m : Nat) : Ints w (some ⟨b, off + lo, none⟩) ((xs.drop lo).take m) := by
  intro hn
  obtain ⟨b', off', e, hb, hc⟩ := h (by intro e; subst e; simp at hn)
  injection e with e
  injection e with e1 e2
  subst e1 e2
  refine ⟨b, off + lo, rfl, hb, fun k x hx => ?_⟩
  rw [List.getElem?_take] at hx
  split at hx
  · rw [List.getElem?_drop] at hx
    rw [Nat.add_assoc]
    exact hc _ _ hx
  · cases hx
end Go.Proofs.YtkdlipbegdiaaaaGreatDoor
namespace Go.Proofs.YtkdlipbegdiaaaaGreatDoor
open Go.RowKit
/-- the integers xs lie from off on in block g, which the call made and which has room for cap -/
structure Seg (w : World) (B : Nat) (g off cap : Nat) (xs : List Int) (cur : Array Value) : Prop where
  lo : B ≤ g
  blk : Blk w g 3 cur
  size : off + cap ≤ cur.size
  le : xs.length ≤ cap
  max : cap ≤ maxLen
  at_ : ∀ j x, xs[j]? = some x → cur[off + j]? = some (.int .i64 x)
theorem Seg.ints {w : World} {B g off cap : Nat} {xs : List Int} {cur : Array Value} (h : Seg w B g off cap xs cur) : Ints w (some ⟨g, off, none⟩) xs :=
  fun _ => ⟨g, off, rfl, h.blk.lt, fun k x hk => (h.blk.cell (off + k)).trans (h.at_ k x hk)⟩
theorem Seg.of_own {w : World} {B : Nat} {v : Value} {xs : List Int} (h : Own w B v xs) (h0 : 0 < xs.length) : ∃ g cap cur, v = .slice (some ⟨g, 0, none⟩) xs.length cap ∧ Seg w B g 0 cap xs cur := by
  rcases h.2 with ⟨_, hz⟩ | ⟨g, cap, cur, hv, hb, hg, hnc, hcm, hcs, htake⟩
  · omega
  · refine ⟨g, cap, cur, hv, hb, hg, by omega, hnc, hcm, fun j x hx => ?_⟩
    have hj : j < xs.length := (List.getElem?_eq_some_iff.1 hx).1
    have e : (cur.toList.take (xs.length * 1))[j]? = (xs.map (Value.int .i64))[j]? := by rw [htake]
    rw [List.getElem?_take, if_pos (by omega), List.getElem?_map, hx] at e
    simpa using e
theorem Seg.tail {w : World} {B g off cap : Nat} {x : Int} {xs : List Int} {cur : Array Value} (h : Seg w B g off cap (x :: xs) cur) : Seg w B g (off + 1) (cap - 1) xs cur :=
  ⟨h.lo, h.blk, by have := h.size; have := h.le; simp at this; omega, by have := h.le; simp at this; omega, by have := h.max; omega, fun j y hy => by
    have := h.at_ (j + 1) y (by simpa using hy)
    rwa [show off + 1 + j = off + (j + 1) from by omega]⟩
theorem grown_below {w W w' : World} {row : Option Nat} (h : w.grownBy W row) (k : Below w.heap.size W w') : w.grownBy w' row :=
  ⟨k.os.trans h.os, k.tape.trans h.tape, k.output.trans h.output, Nat.le_trans h.size k.size, fun i hi hr => (k.block i hi).trans (h.block i hi hr)⟩
theorem Seg.grown {w w' : World} {B g off cap : Nat} {xs : List Int} {cur : Array Value} {row : Option Nat} (h : Seg w B g off cap xs cur) (hg : w.grownBy w' row) (hne : some g ≠ row) : Seg w' B g off cap xs cur :=
  ⟨h.lo, h.blk.grown hg hne, h.size, h.le, h.max, h.at_⟩
theorem run_seg (W : World) (B : Nat) (ty : TypeId) (g off cap : Nat) (xs : List Int) (cur : Array Value) (x : Int) (hS : Seg W B g off cap xs cur) (hB : B ≤ W.heap.size) (ad : Addr) (c : Nat) (hx : W.cell? (ad.add 0) = some (.int .i64 x)) (hn : xs.length ≤ 1000000000000) :
    ∃ v' w', (Builtin.append_ #[23, 23] ty #[.slice (some ⟨g, off, none⟩) xs.length cap, .slice (some ad) 1 c]).run Tryz.prog W = .ok v' w' ∧
      (∃ g' off' cap' cur', v' = .slice (some ⟨g', off', none⟩) (xs.length + 1) cap' ∧ Seg w' B g' off' cap' (xs ++ [x]) cur') ∧ Below B W w' ∧ ∀ j, j < off + xs.length → w'.cell? ⟨g, j, none⟩ = W.cell? ⟨g, j, none⟩ := by
  obtain ⟨i0, hi, hz0, hz1, hz2⟩ := info_parts Tryz.infoInt
  have hnews : ∀ j u, [Value.int .i64 x][j]? = some u → W.cell? (ad.add j) = some u := by
    intro j u hj
    match j, hj with
    | 0, hj => cases hj; exact hx
  by_cases hr : xs.length + 1 ≤ cap
  · have hsz := hS.size
    have hlt : off + xs.length < cur.size := by omega
    have hcell : (W.cell? ⟨g, off + xs.length, none⟩).isSome = true := by rw [hS.blk.cell, Array.getElem?_eq_getElem hlt]; rfl
    have hrun := run_append_room_cells (P := Tryz.prog) W 23 ty 3 i0 Tryz.underlying23 hi g off xs.length cap ad 1 c [.int .i64 x] (by rw [hz1]; rfl) hnews (by intro u hu; simp at hu; subst hu; rfl) hr
      (by intro j hj; rw [hz1]; simp at hj; subst hj; simpa using hcell) (by intro j _; exact hS.blk.frozen _)
    rw [hz1, Nat.mul_one] at hrun
    refine ⟨_, _, hrun, ⟨g, off, cap, cur.setIfInBounds (off + xs.length) (.int .i64 x), rfl, ⟨hS.lo, hS.blk.set_ _ _, by simpa using hsz, by simpa using hr, hS.max, ?_⟩⟩, ?_, ?_⟩
    · intro j y hj
      rw [Array.getElem?_setIfInBounds]
      by_cases hjl : j < xs.length
      · rw [if_neg (by omega)]
        exact hS.at_ j y (by rwa [List.getElem?_append_left hjl] at hj)
      · have : j = xs.length := by
          have := (List.getElem?_eq_some_iff.1 hj).1
          simp at this; omega
        subst this
        rw [if_pos rfl, if_pos hlt]
        simpa using hj
    · exact ⟨rfl, rfl, rfl, by simp [World.setCells], fun k hk => heap_setCell_other W ⟨g, off + xs.length, none⟩ k _ (by have := hS.lo; show k ≠ g; omega)⟩
    · intro j hj
      refine ((hS.blk.set_ (off + xs.length) (.int .i64 x)).cell j).trans ?_
      rw [hS.blk.cell, Array.getElem?_setIfInBounds, if_neg (by omega)]
  · have hI := hS.ints
    obtain ⟨v', w', hrun, hown, hgr⟩ := run_append_arg_grows (P := Tryz.prog) W 23 ty 3 i0 (.int .i64 0) 1 8 Tryz.underlying23 hi hz0 hz1 hz2 rfl (by decide) ⟨g, off, none⟩ xs.length cap (xs.map (Value.int .i64)) (by simp)
      (by intro j u hj
          rw [List.getElem?_map] at hj
          cases hxj : xs[j]? with
          | none => rw [hxj] at hj; cases hj
          | some y =>
            rw [hxj] at hj; cases hj
            rw [Addr.add_lit]
            exact (hS.blk.cell (off + j)).trans (hS.at_ j y hxj))
      ad 1 c [.int .i64 x] rfl hnews (by omega) (by unfold maxLen; omega) (by omega)
    have hown' : Own w' W.heap.size v' (xs ++ [x]) := by simpa [Own] using hown
    obtain ⟨g', cap', cur', hv, hS'⟩ := Seg.of_own hown' (by simp)
    refine ⟨v', w', hrun, ⟨g', 0, cap', cur', by rw [hv]; simp, ⟨Nat.le_trans hB hS'.lo, hS'.blk, hS'.size, hS'.le, hS'.max, hS'.at_⟩⟩, ?_⟩
    refine ⟨⟨hgr.os, hgr.tape, hgr.output, hgr.size, fun k hk => hgr.block k (by omega) (by simp)⟩, fun j _ => ?_⟩
    exact World.cell?_of_block (hgr.block g hS.blk.lt (by simp))
theorem step_seg {ops : Array Oper} {o : Oper} {a : Act} {W : World} {K : Act → World → Prop} {Q : Exit → Act → World → Prop} {E : Prop} (hgd : o.guard = none) (s x : Operand)
    (ho : o.op = .call { callee := .builtin .append, args := #[s, x], argTypes := #[23, 23] })
    (B g off cap : Nat) (xs : List Int) (cur : Array Value) (z : Int) (n : Nat) (hn : xs.length = n) (hs : a.eval s = .slice (some ⟨g, off, none⟩) n cap) (ad : Addr) (c : Nat) (hx : a.eval x = .slice (some ad) 1 c)
    (hS : Seg W B g off cap xs cur) (hz : W.cell? (ad.add 0) = some (.int .i64 z)) (hB : B ≤ W.heap.size) (hm : n ≤ 1000000000000)
    (h : ∀ g' off' cap' cur' w', Seg w' B g' off' cap' (xs ++ [z]) cur' → Below B W w' → (∀ j, j < off + n → w'.cell? ⟨g, j, none⟩ = W.cell? ⟨g, j, none⟩) → K (a.put o.dst (.slice (some ⟨g', off', none⟩) (n + 1) cap')) w') :
    if Region.wanted o (yielded ops a.tmps) = true then Oper.wp Tryz.prog o a W K Q else E := by
  have hw : Region.wanted o (yielded ops a.tmps) = true := by simp [Region.wanted, hgd]
  rw [if_pos hw]
  subst hn
  obtain ⟨v', w', hrun, ⟨g', off', cap', cur', rfl, h2⟩, h4, h5⟩ := run_seg W B o.type g off cap xs cur z hS hB ad c hz hm
  unfold Oper.wp execOp
  simp only [ho, resolve, invoke, builtin, Sem.run_bind, Sem.run_pure, Result.andThen_ok, List.map_toArray, List.map_cons, List.map_nil, hs, hx, hrun]
  exact h g' off' cap' cur' w' h2 h4 h5
/-- a store into it -/
theorem Seg.set {w : World} {B g off cap : Nat} {xs : List Int} {cur : Array Value} (h : Seg w B g off cap xs cur) (j : Nat) (y : Int) :
    Seg (w.setCell ⟨g, off + j, none⟩ (.int .i64 y)) B g off cap (xs.set j y) (cur.setIfInBounds (off + j) (.int .i64 y)) := by
  refine ⟨h.lo, h.blk.set_ _ _, by simpa using h.size, by simpa using h.le, h.max, fun k x hk => ?_⟩
  rw [List.getElem?_set] at hk
  rw [Array.getElem?_setIfInBounds]
  by_cases e : j = k
  · subst e
    rw [if_pos rfl] at hk
    by_cases hj : j < xs.length
    · rw [if_pos hj] at hk
      have := h.size
      have := h.le
      rw [if_pos rfl, if_pos (by omega), Option.some.inj hk]
    · rw [if_neg hj] at hk; cases hk
  · rw [if_neg e] at hk
    rw [if_neg (by omega)]
    exact h.at_ k x hk
theorem Seg.drewN {w : World} {B g off cap : Nat} {xs : List Int} {cur : Array Value} (h : Seg w B g off cap xs cur) (n : Nat) : Seg (w.drewN n) B g off cap xs cur := ⟨h.lo, h.blk, h.size, h.le, h.max, h.at_⟩
theorem Seg.far {w : World} {B g off cap : Nat} {xs : List Int} {cur : Array Value} (h : Seg w B g off cap xs cur) (o : Obj) : Seg (w.alloc o) B g off cap xs cur := ⟨h.lo, h.blk.alloc o, h.size, h.le, h.max, h.at_⟩
theorem below_set (w : World) {B g : Nat} (i : Nat) (v : Value) (h : B ≤ g) : Below B w (w.setCell ⟨g, i, none⟩ v) :=
  ⟨rfl, rfl, rfl, by simp, fun n hn => heap_setCell_other w ⟨g, i, none⟩ n v (by show n ≠ g; omega)⟩
theorem cell_alloc {w : World} {p : Addr} {v : Value} (o : Obj) (h : w.cell? p = some v) : (w.alloc o).cell? p = some v :=
  (((Below.refl w.heap.size w).alloc (Nat.le_refl _) o).cell (World.block_lt_of_cell? _ _ h)).trans h
theorem new_cell0 (w : World) (v : Value) (t : TypeId) : (w.alloc (.cells #[v] t)).cell? ((⟨w.heap.size, 0, none⟩ : Addr).add 0) = some v := by
  rw [Addr.add_lit]
  exact (Blk.new w t #[v]).cell 0
/-- all of it within bounds -/
def Tight (xs : List Int) : Prop := ∀ x ∈ xs, -1500 ≤ x ∧ x ≤ 1500
theorem Tight.set {xs : List Int} (h : Tight xs) (j : Nat) {y : Int} (hy : -1500 ≤ y ∧ y ≤ 1500) : Tight (xs.set j y) := by
  intro x hx
  rcases List.mem_or_eq_of_mem_set hx with h' | h'
  · exact h x h'
  · exact h' ▸ hy
/-- all of it within bounds -/
def Small (xs : List Int) : Prop := ∀ x ∈ xs, -2000 ≤ x ∧ x ≤ 2000
theorem Small.set {xs : List Int} (h : Small xs) (j : Nat) {y : Int} (hy : -2000 ≤ y ∧ y ≤ 2000) : Small (xs.set j y) := by
  intro x hx
  rcases List.mem_or_eq_of_mem_set hx with h' | h'
  · exact h x h'
  · exact h' ▸ hy
theorem Tight.small {xs : List Int} (h : Tight xs) : Small xs := fun x hx => by have := h x hx; omega
/-- a slice that reads as a list, no cell of it in block r -/
def Away (w : World) (r : Nat) (A : Option Addr) (xs : List Int) : Prop := xs ≠ [] → ∃ b off, A = some ⟨b, off, none⟩ ∧ b ≠ r ∧ b < w.heap.size ∧ ∀ k x, xs[k]? = some x → w.cell? ⟨b, off + k, none⟩ = some (.int .i64 x)
theorem Away.ints {w : World} {r : Nat} {A : Option Addr} {xs : List Int} (h : Away w r A xs) : Ints w A xs := fun hn => by
  obtain ⟨b, off, e, _, hb, hc⟩ := h hn
  exact ⟨b, off, e, hb, hc⟩
theorem Away.grown {w w' : World} {r : Nat} {A : Option Addr} {xs : List Int} (h : Away w r A xs) (hg : w.grownBy w' (some r)) : Away w' r A xs := fun hn => by
  obtain ⟨b, off, e, hne, hb, hc⟩ := h hn
  exact ⟨b, off, e, hne, Nat.lt_of_lt_of_le hb hg.size, fun k x hk => (hg.cell_far ⟨b, off + k, none⟩ hb (fun e => hne (Option.some.inj e))).trans (hc k x hk)⟩
theorem Away.below {w w' : World} {r : Nat} {A : Option Addr} {xs : List Int} (h : Away w r A xs) (hg : Below w.heap.size w w') : Away w' r A xs := fun hn => by
  obtain ⟨b, off, e, hne, hb, hc⟩ := h hn
  exact ⟨b, off, e, hne, Nat.lt_of_lt_of_le hb hg.size, fun k x hk => (hg.cell hb).trans (hc k x hk)⟩
theorem Away.nil (w : World) (r : Nat) (A : Option Addr) : Away w r A [] := fun h => absurd rfl h
theorem Seg.away {w : World} {B g off cap r : Nat} {xs : List Int} {cur : Array Value} (h : Seg w B g off cap xs cur) (hr : r < B) : Away w r (some ⟨g, off, none⟩) xs :=
  fun _ => ⟨g, off, rfl, by have := h.lo; omega, h.blk.lt, fun k x hk => (h.blk.cell (off + k)).trans (h.at_ k x hk)⟩
end Go.Proofs.YtkdlipbegdiaaaaGreatDoor
namespace Go.Proofs.YtkdlipbegdiaaaaGreatDoor
open Go.RowKit
set_option maxHeartbeats 400000 in
theorem impl_balanced (A : Option Addr) (cap : Nat) (xs : List Int) (w : World) (h : Ints w A xs) (hl : xs.length ≤ 100) (hx : ∀ x ∈ xs, 0 ≤ x ∧ x ≤ 1000) :
    Calls Tryz.prog 173 #[.slice A xs.length cap] w fun e w' => e = .returned (.bool (balB xs)) ∧ w = w' := by
  go_enter Tryz.func173, Tryz.ntmps173
  go_wp2
  go_loop [3, 8] (fun s i => ∃ (k : Nat) (v : Int), k ≤ xs.length ∧ i = .int .i64 k ∧ s = .int .i64 v ∧ -1000 * (k : Int) ≤ v ∧ v ≤ 1000 * (k : Int) ∧ Hid (balGo 0 0 xs = balGo k v (xs.drop k))) (fun _ i => xs.length - (intOf i).toNat)
  case atStart => exact ⟨0, 0, Nat.zero_le _, rfl, rfl, by simp, by simp, rfl⟩
  case round =>
    obtain ⟨k, v, hk, rfl, rfl, b1, b2, H⟩ := hrel
    by_cases hlt : k < xs.length
    · obtain ⟨b, off, x, rfl, hb, HX, hc, hm⟩ := h.at_ hlt
      obtain ⟨x1, x2⟩ := hx x hm
      clear hx hm
      by_cases hp : k % 2 = 0
      · have HP := Lib.hid hp; clear hp
        have hpk : (((k : Int) % 2) == 0) = true := by have := HP.out; simp; omega
        go_wp2
        go_round
        case rel => exact ⟨k + 1, v + x, by omega, by go_num, rfl, by omega, by omega, H.out.trans (by rw [HX.out, balGo, if_pos HP.out])⟩
        case measure => simp [intOf]; omega
      · have HP := Lib.hid hp; clear hp
        have hpk : (((k : Int) % 2) == 0) = false := by have := HP.out; simp; omega
        go_wp2
        go_round
        case rel => exact ⟨k + 1, v - x, by omega, by go_num, rfl, by omega, by omega, H.out.trans (by rw [HX.out, balGo, if_neg HP.out])⟩
        case measure => simp [intOf]; omega
    · go_wp2
      go_ret
      refine ⟨ret_bool ?_, rfl⟩
      have e : xs.drop k = [] := List.drop_of_length_le (by omega)
      unfold balB
      rw [H.out, e, balGo, Bool.eq_iff_iff]; simp
set_option maxHeartbeats 400000 in
theorem impl_AnglesValid (A : Option Addr) (cap : Nat) (xs : List Int) (w : World) (h : Ints w A xs) (hl : xs.length ≤ maxLen) :
    Calls Tryz.prog 129 #[.slice A xs.length cap] w fun e w' => e = .returned (.bool (avB xs)) ∧ w = w' := by
  unfold maxLen at hl
  by_cases g1 : xs.length < 2
  · have d1 : decide ((xs.length : Int) < 2) = true := by simp; omega
    go_enter Tryz.func129, Tryz.ntmps129
    go_wp2
    go_ret
    exact ⟨ret_bool (by unfold avB; simp; omega), rfl⟩
  · have d1 : decide ((xs.length : Int) < 2) = false := by simp; omega
    by_cases g2 : 10 < xs.length
    · have d2 : decide ((10 : Int) < (xs.length : Int)) = true := by simp; omega
      go_enter Tryz.func129, Tryz.ntmps129
      go_wp2
      go_ret
      exact ⟨ret_bool (by unfold avB; simp; omega), rfl⟩
    · have d2 : decide ((10 : Int) < (xs.length : Int)) = false := by simp; omega
      by_cases g3 : xs.length % 2 = 0
      · have d3 : (((xs.length : Int) % 2) != 0) = false := by simp; omega
        have G := Lib.hid (avB_go g3 (by omega) (by omega))
        clear g3
        go_enter Tryz.func129, Tryz.ntmps129
        go_wp2
        go_loop [4, 22] (fun s i => ∃ (k : Nat) (v : Int), k ≤ xs.length ∧ i = .int .i64 k ∧ s = .int .i64 v ∧ 0 ≤ v ∧ v ≤ 360 * (k : Int) ∧ Hid (avB xs = avGo v (xs.drop k))) (fun _ i => xs.length - (intOf i).toNat)
        case atStart => exact ⟨0, 0, Nat.zero_le _, rfl, rfl, by omega, by omega, G.out⟩
        case round =>
          obtain ⟨k, v, hk, rfl, rfl, b1, b2, H⟩ := hrel
          by_cases hlt : k < xs.length
          · obtain ⟨b, off, x, rfl, hb, HX, hc, hm⟩ := h.at_ hlt
            clear hm
            by_cases t1 : x < 1
            · have e1 : decide (x < 1) = true := by simp; omega
              go_wp2
              go_ret
              exact ⟨ret_bool (by rw [H.out, HX.out, avGo, if_pos t1]), rfl⟩
            · have e1 : decide (x < 1) = false := by simp; omega
              by_cases t2 : 360 < x
              · have e2 : decide ((360 : Int) < x) = true := by simp; omega
                go_wp2
                go_ret
                exact ⟨ret_bool (by rw [H.out, HX.out, avGo, if_neg (by omega), if_pos t2]), rfl⟩
              · have e2 : decide ((360 : Int) < x) = false := by simp; omega
                go_wp2
                go_round
                case rel => exact ⟨k + 1, v + x, by omega, by go_num, rfl, by omega, by omega, H.out.trans (by rw [HX.out, avGo, if_neg (by omega), if_neg (by omega)])⟩
                case measure => simp [intOf]; omega
          · go_wp2
            go_ret
            have e : xs.drop k = [] := List.drop_of_length_le (by omega)
            exact ⟨ret_bool (by rw [H.out, e, avGo, Bool.eq_iff_iff]; simp), rfl⟩
      · have d3 : (((xs.length : Int) % 2) != 0) = true := by rw [bne_iff_ne]; omega
        have G := Lib.hid g3
        clear g3
        go_enter Tryz.func129, Tryz.ntmps129
        go_wp2
        go_ret
        exact ⟨ret_bool (by have := G.out; unfold avB; simp; omega), rfl⟩
set_option maxHeartbeats 400000 in
theorem impl_AnglesCloses (A : Option Addr) (cap : Nat) (xs : List Int) (w : World) (h : Ints w A xs) (hl : xs.length ≤ maxLen) :
    Calls Tryz.prog 152 #[.slice A xs.length cap] w fun e w' => e = .returned (.bool (acB xs)) ∧ w = w' := by
  cases hv : avB xs with
  | false =>
    have HV := Lib.hid hv; clear hv
    go_enter Tryz.func152, Tryz.ntmps152
    go_wp2_with fail
    refine (impl_AnglesValid A cap xs w h hl).mono ?_
    rintro e w' ⟨rfl, rfl⟩
    rw [HV.out]
    go_wp2
    go_ret
    exact ⟨ret_bool (by unfold acB; rw [HV.out]; rfl), rfl⟩
  | true =>
    obtain ⟨_, _, h10, hx, _⟩ := avB_parts hv
    have HV := Lib.hid hv; clear hv
    have HX := Lib.hid hx; clear hx
    go_enter Tryz.func152, Tryz.ntmps152
    go_wp2_with fail
    refine (impl_AnglesValid A cap xs w h hl).mono ?_
    rintro e w' ⟨rfl, rfl⟩
    rw [HV.out]
    go_wp2_with fail
    refine (impl_balanced A cap xs w h (by omega) (fun x hx => by have := HX.out x hx; omega)).mono ?_
    rintro e w' ⟨rfl, rfl⟩
    go_wp2
    go_ret
    exact ⟨ret_bool (by unfold acB; rw [HV.out]; rfl), rfl⟩
end Go.Proofs.YtkdlipbegdiaaaaGreatDoor
namespace Go.Proofs.YtkdlipbegdiaaaaGreatDoor
open Go.RowKit
section
variable {w w' : World} {p n : Nat} {b : Nat → Nat} {x : Nat → Int} {f : Nat → Nat}
theorem Ring.below (h : Ring w p n b x f) (hb : Below w.heap.size w w') : Ring w' p n b x f :=
  ⟨h.head.below hb h.head.lt, fun k hk => (h.node k hk).below hb (h.node k hk).lt, h.inj⟩
theorem Ring.at_ (h : Ring w p n b x f) {B : Nat} (hB : w.heap.size ≤ B) (hb : Below B w w') : Ring w' p n b x f :=
  h.below (hb.mono hB)
end
def crimpsTo (n : Nat) (x : Nat → Int) (f : Nat → Nat) (k : Nat) : List Int := ((List.range k).filter (allowedB n x f)).map Int.ofNat
theorem crimpsTo_yes {n k : Nat} {x : Nat → Int} {f : Nat → Nat} (h : allowedB n x f k = true) : crimpsTo n x f (k + 1) = crimpsTo n x f k ++ [(k : Int)] := by
  simp [crimpsTo, List.range_succ, List.filter_append, h]
theorem crimpsTo_no {n k : Nat} {x : Nat → Int} {f : Nat → Nat} (h : allowedB n x f k = false) : crimpsTo n x f (k + 1) = crimpsTo n x f k := by
  simp [crimpsTo, List.range_succ, List.filter_append, h]
theorem crimpsTo_len (n : Nat) (x : Nat → Int) (f : Nat → Nat) (k : Nat) : (crimpsTo n x f k).length ≤ k := by
  have := List.length_filter_le (allowedB n x f) (List.range k)
  simpa [crimpsTo] using this
set_option maxHeartbeats 1000000 in
theorem crimps_any (w : World) (p n : Nat) (b : Nat → Nat) (x : Nat → Int) (f : Nat → Nat) (h : Ring w p n b x f) (hn0 : 0 < n) (hn : n ≤ 100) (hf : ∀ k, f k < 256) :
    Calls Tryz.prog 174 #[ptr p] w fun e w' => ∃ v, e = .returned v ∧ Own w' w.heap.size v (crimpsTo n x f n) ∧ Below w.heap.size w w' := by
  have c2 := (h.below ((Below.refl _ _).alloc (Nat.le_refl _) (.cells #[] 3))).first
  go_enter Tryz.func174, Tryz.ntmps174
  go_wp2
  go_loopg [3, 4, 5] (n + 1) (fun g s3 s4 s5 wr => ∃ k, k ≤ n ∧ s5 = .int .i64 k ∧ s4 = ptr (b (if k = n then 0 else k)) ∧ n - k < g ∧ Own wr w.heap.size s3 (crimpsTo n x f k) ∧ Below w.heap.size w wr)
  case atStart => exact ⟨0, Nat.zero_le _, rfl, by rw [if_neg (by omega)], by omega, own_empty w (Nat.le_refl _), (Below.refl _ _).alloc (Nat.le_refl _) _⟩
  case round =>
    obtain ⟨k, hk, rfl, rfl, hg, hown, hbel⟩ := hrel
    have hr := h.below hbel
    have d1 := hr.many
    have hsz := hbel.size
    cases gk with
    | zero => omega
    | succ g =>
    by_cases hlt : k < n
    · rw [if_neg (Nat.ne_of_lt hlt)]
      have hlen := crimpsTo_len n x f k
      have d2 := hr.next hlt
      have hcur : b (if k + 1 = n then 0 else k + 1) = b (nxt n k) := rfl
      have HC := Lib.hid hcur; clear hcur
      cases ha : allowedB n x f k with
      | true =>
        have hy := crimpsTo_yes ha
        have HY := Lib.hid hy; clear hy
        have HA := Lib.hid ha; clear ha
        go_wp2_with fail
        refine (allowed_any wr p n b x f k hr hlt hn hf).mono ?_
        rintro e w1 ⟨rfl, m, rfl⟩
        rw [HA.out]
        go_wp2_with (at_builtin; go_loud (refine wpList_push (W := wr.drewN m) rfl _ _ rfl w.heap.size _ _ k (by rfl) (by rfl) hown hsz (by omega) ?_))
        intro v' w2 hown2 hgr hb2
        have hbel2 := (below_drewN hbel m).trans hb2
        have hr2 := h.below hbel2
        have d3 := hr2.next hlt
        clear hown d1 d2 hr hb2 hgr
        go_wp2
        go_roundg g
        case measure => omega
        case rel => exact ⟨k + 1, by omega, by go_num, by rw [HC.out], by omega, by rw [HY.out]; exact hown2, hbel2⟩
      | false =>
        have hy := crimpsTo_no ha
        have HY := Lib.hid hy; clear hy
        have HA := Lib.hid ha; clear ha
        go_wp2_with fail
        refine (allowed_any wr p n b x f k hr hlt hn hf).mono ?_
        rintro e w1 ⟨rfl, m, rfl⟩
        rw [HA.out]
        go_wp2
        go_roundg g
        case measure => omega
        case rel => exact ⟨k + 1, by omega, by go_num, by rw [HC.out], by omega, by rw [HY.out]; exact hown, below_drewN hbel m⟩
    · obtain rfl : k = n := by omega
      go_wp2
      go_ret
      exact ⟨_, rfl, hown, hbel⟩
end Go.Proofs.YtkdlipbegdiaaaaGreatDoor
