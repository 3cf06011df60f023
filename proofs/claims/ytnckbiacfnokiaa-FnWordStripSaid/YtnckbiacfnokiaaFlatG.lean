/- Parts laid flat: all orders of numbers, each handed to a function that always goes on. No condition but sizes. -/
import Derived.Test.YtnckbiacfnokiaaFlatF
namespace Go.Proofs.Ytnckbiacfnokiaa
open Go.RowKit

theorem Try.infoBool : (Try.prog.info? 4).map (fun i => (i.zero, i.size, i.bytes)) = some (some (.bool false), 1, 1) := by kernel_rfl
/-- booleans in a row of the call's own -/
abbrev OwnBo (w : World) (B : Nat) (v : Value) (n : Nat) (bs : List Bool) : Prop := w.ownsRow B 4 1 v n (bs.map Value.bool)
abbrev OwnJ (w : World) (B : Nat) (v : Value) (n : Nat) (xs : List Int) : Prop := w.ownsRow B 3 1 v n (xs.map (Value.int .i64))
theorem own_setB {w : World} {B g cap : Nat} {bs : List Bool} {n : Nat} (h : OwnBo w B (.slice (some ⟨g, 0, none⟩) n cap) n bs) (k : Nat) (x : Bool) :
    OwnBo (w.setCell ⟨g, k, none⟩ (.bool x)) B (.slice (some ⟨g, 0, none⟩) n cap) n (bs.set k x) ∧ Below B w (w.setCell ⟨g, k, none⟩ (.bool x)) := by
  have st := World.ownsRow.stored h k (.bool x)
  refine ⟨?_, below_set w k _ (h.lt g rfl).1⟩
  show World.ownsRow _ _ _ _ _ _ _
  rw [List.map_set]
  exact st.1
theorem own_cellB {w : World} {B g cap : Nat} {bs : List Bool} {n : Nat} (h : OwnBo w B (.slice (some ⟨g, 0, none⟩) n cap) n bs) {k : Nat} {x : Bool} (hk : k < n) (hx : bs[k]? = some x) : w.cell? ⟨g, k, none⟩ = some (.bool x) ∧ w.frozen? ⟨g, k, none⟩ = false := by
  have r := World.ownsRow.cellAt h k (by omega)
  rw [List.getElem?_map, hx] at r
  exact ⟨r, World.ownsRow.frozenAt h k⟩
theorem made_zeroB (n : Nat) : (madeCells (Value.bool false).cells (n * 1)).toList = (List.replicate n false).map Value.bool := by
  apply List.ext_getElem
  · simp [madeCells]
  · intro i h1 h2
    simp [madeCells, Value.cells, Nat.mod_one]
/-- the head of a row -/
theorem own_head {w : World} {B g cap m : Nat} {xs : List Int} {z : Int} (hm : xs.length = m) (h : OwnJ w B (.slice (some ⟨g, 0, none⟩) (m + 1) cap) (m + 1) (xs ++ [z])) : OwnJ w B (.slice (some ⟨g, 0, none⟩) m cap) m xs := by
  rcases h.2 with ⟨e, _⟩ | ⟨g', cap', cur, e, hb, hg, hnc, hcm, hcs, htake⟩
  · cases e
  · cases e
    refine ⟨by simp [hm], Or.inr ⟨g, cap, cur, rfl, hb, hg, by omega, hcm, hcs, ?_⟩⟩
    have h1 : cur.toList.take (m * 1) = (cur.toList.take ((m + 1) * 1)).take (m * 1) := by rw [List.take_take]; congr 1; omega
    rw [h1, htake, List.map_append, List.take_append_of_le_length (by simp [hm]), List.take_of_length_le (by simp [hm])]
/-- append of one integer where there is room -/
theorem wpList_pushR {ops : Array Oper} {rest : List Oper} {o : Oper} {a : Act} {Q : Exit → Act → World → Prop} {W : World} (hgd : o.guard = none) (s x : Operand)
    (ho : o.op = .call { callee := .builtin .append, args := #[s, x], argTypes := #[28, 28] })
    (B g n cap : Nat) (xs : List Int) (z : Int) (hs : a.eval s = .slice (some ⟨g, 0, none⟩) n cap) (hx : a.eval x = .slice (some ⟨W.heap.size, 0, none⟩) 1 1) (hown : OwnJ W B (.slice (some ⟨g, 0, none⟩) n cap) n xs) (hB : B ≤ W.heap.size) (hr : n + 1 ≤ cap) (hn : n ≤ 1000000)
    (h : ∀ w', OwnJ w' B (.slice (some ⟨g, 0, none⟩) (n + 1) cap) (n + 1) (xs ++ [z]) → W.grownBy w' (some g) → wpList Try.prog ops Q rest (a.put o.dst (.slice (some ⟨g, 0, none⟩) (n + 1) cap)) w') :
    wpList Try.prog ops Q (o :: rest) a (W.alloc (.cells #[.int .i64 z] 3)) := by
  refine wpList_plain hgd fun _ hK => ?_
  obtain ⟨i0, hi, hz0, hz1, hz2⟩ := info_parts Try.infoInt
  have hown1 : OwnJ (W.alloc (.cells #[.int .i64 z] 3)) B (.slice (some ⟨g, 0, none⟩) n cap) n xs := hown.alloc _
  have hnews : ∀ j u, [Value.int .i64 z][j]? = some u → (W.alloc (.cells #[.int .i64 z] 3)).cell? ((⟨W.heap.size, 0, none⟩ : Addr).add j) = some u := by
    intro j u hj
    match j, hj with
    | 0, hj => cases hj; exact new_cell0 W _ _
  have h1c : ∀ u ∈ [Value.int .i64 z], u.oneCell' = true := by intro u hu; simp at hu; subst hu; rfl
  rcases hown1.2 with ⟨e, _⟩ | ⟨g', cap', cur, e, hb, hg, hnc, hcm, hcs, htake⟩
  · cases e
  · cases e
    have hml : maxLen = 9223372036854775807 := rfl
    obtain ⟨v', w', hrun, h2, h3, _⟩ := run_append_own (P := Try.prog) (W.alloc (.cells #[.int .i64 z] 3)) B 28 o.type 3 i0 (.int .i64 0) 1 8 Try.underlying28 hi hz0 hz1 hz2 rfl (by decide) (.slice (some ⟨g, 0, none⟩) n cap) n (xs.map (Value.int .i64)) hown1 ⟨W.heap.size, 0, none⟩ 1 1 [.int .i64 z] rfl hnews h1c (by omega) (by omega) (Nat.le_trans hB (by simp))
    have hlt : n < cur.size := by omega
    have hrun2 := run_append_room_cells (P := Try.prog) (W.alloc (.cells #[.int .i64 z] 3)) 28 o.type 3 i0 Try.underlying28 hi g 0 n cap ⟨W.heap.size, 0, none⟩ 1 1 [.int .i64 z] (by rw [hz1]; rfl) hnews h1c hr
      (by intro j hj
          rw [hz1]; simp at hj; subst hj
          rw [cell_of_row _ g _ cur 3 (0, 0) hg]
          simp [Array.getElem?_eq_getElem hlt]) (by intro j _; simp [World.frozen?, hg])
    have e1 : v' = .slice (some ⟨g, 0, none⟩) (n + 1) cap := by
      rw [hrun2] at hrun
      exact ((Result.ok.injEq _ _ _ _ ▸ hrun).1).symm
    subst e1
    have hg' : W.grownBy w' (some g) := ⟨h3.os, h3.tape, h3.output, Nat.le_trans (by simp) h3.size, fun k hk hne => (h3.block k (by simp; omega) hne).trans (Below.heap_alloc W _ k hk)⟩
    unfold Oper.wp execOp
    simp only [ho, resolve, invoke, builtin, Sem.run_bind, Sem.run_pure, Result.andThen_ok, List.map_toArray, List.map_cons, List.map_nil, hs, hx, hrun]
    refine hK _ _ (h w' ?_ hg')
    show World.ownsRow _ _ _ _ _ _ _
    rw [List.map_append]
    exact h2
/-- which numbers a list has -/
def usL (n : Nat) (xs : List Int) : List Bool := (List.range n).map fun (i : Nat) => decide ((i : Int) ∈ xs)
theorem usL_len (n : Nat) (xs : List Int) : (usL n xs).length = n := by simp [usL]
theorem usL_get {n i : Nat} (xs : List Int) (h : i < n) : (usL n xs)[i]? = some (decide ((i : Int) ∈ xs)) := by simp [usL, h]
theorem usL_add {n i : Nat} (xs : List Int) (h : i < n) : (usL n xs).set i true = usL n (xs ++ [(i : Int)]) := by
  apply List.ext_getElem?
  intro j
  rw [List.getElem?_set]
  by_cases hj : j < n
  · by_cases e : i = j
    · subst e
      rw [if_pos rfl, usL_len, if_pos hj, usL_get _ hj, decide_eq_true (by simp)]
    · rw [if_neg e, usL_get _ hj, usL_get _ hj]
      congr 1
      have : ((j : Int) ∈ xs ++ [(i : Int)]) ↔ (j : Int) ∈ xs := by
        rw [List.mem_append, List.mem_singleton]
        constructor
        · rintro (h | h)
          · exact h
          · omega
        · exact Or.inl
      simp only [this]
  · rw [List.getElem?_eq_none (l := usL n (xs ++ [(i : Int)])) (by rw [usL_len]; omega), List.getElem?_eq_none (l := usL n xs) (by rw [usL_len]; omega)]
    split
    · rw [usL_len, if_neg (by omega)]
    · rfl
theorem usL_back {n i : Nat} {xs : List Int} (h : i < n) (hx : (i : Int) ∉ xs) : (usL n (xs ++ [(i : Int)])).set i false = usL n xs := by
  rw [← usL_add xs h, List.set_set]
  apply List.ext_getElem?
  intro j
  rw [List.getElem?_set]
  by_cases e : i = j
  · subst e
    rw [if_pos rfl, usL_len, if_pos h, usL_get _ h, decide_eq_false hx]
  · rw [if_neg e]
/-- how many of the first j ways there are to go on, each weighed -/
def ordTo (xs : List Int) (f : List Int → Nat) : Nat → Nat
  | 0 => 0
  | j + 1 => ordTo xs f j + (if (j : Int) ∈ xs then 0 else f (xs ++ [(j : Int)]))
/-- the weights of all orders of n numbers that begin so, k of them left -/
def ordSum (n : Nat) (wt : List Int → Nat) : Nat → List Int → Nat
  | 0, xs => wt xs
  | k + 1, xs => ordTo xs (ordSum n wt k) n
theorem ordTo_le {xs : List Int} {f : List Int → Nat} {b : Nat} (hf : ∀ l, f l ≤ b) (j : Nat) : ordTo xs f j ≤ j * b := by
  induction j with
  | zero => simp [ordTo]
  | succ j ih =>
    rw [ordTo, Nat.succ_mul]
    have := hf (xs ++ [(j : Int)])
    split <;> omega
theorem ordSum_le {n : Nat} {wt : List Int → Nat} (hw : ∀ l, wt l ≤ 1) (k : Nat) : ∀ xs, ordSum n wt k xs ≤ n ^ k := by
  induction k with
  | zero => exact fun xs => hw xs
  | succ k ih =>
    intro xs
    rw [ordSum, Nat.pow_succ, Nat.mul_comm]
    exact ordTo_le ih n
set_option maxHeartbeats 2000000 in
set_option maxRecDepth 100000 in
theorem impl_eachOrder (H0 go gu c n M q2 q3 : Nat) (wt : List Int → Nat) (I : Nat → World → Prop) (hw : ∀ l, wt l ≤ 1) (hI : ∀ s W W', I s W → Below H0 W W' → I s W') (hz : ∀ s W, I s W → H0 ≤ W.heap.size) (hn : n ≤ 100) (hgu : go ≠ gu) (hc : c < H0)
    (HV : ∀ s W cap xs, I s W → xs.length = n → (∀ x ∈ xs, 0 ≤ x ∧ x < (n : Int)) → Ints W (some ⟨go, 0, none⟩) xs → s + 1 ≤ M → Calls Try.prog 63 #[.slice (some ⟨go, 0, none⟩) n cap, ptr q2, ptr q3] W fun e W' => e = .returned (.bool true) ∧ I (s + wt xs) W' ∧ W.grownBy W' (some c)) (k : Nat) :
    ∀ (xs : List Int) (s : Nat) (W : World), xs.length + k = n → (∀ x ∈ xs, 0 ≤ x ∧ x < (n : Int)) → OwnJ W H0 (.slice (some ⟨go, 0, none⟩) xs.length n) xs.length xs → OwnBo W H0 (.slice (some ⟨gu, 0, none⟩) n n) n (usL n xs) → I s W → s + n ^ k ≤ M →
      Calls Try.prog 62 #[.slice (some ⟨go, 0, none⟩) xs.length n, .slice (some ⟨gu, 0, none⟩) n n, .func (.func 63) #[] #[ptr q2, ptr q3]] W fun e W' => e = .returned (.bool true) ∧ OwnJ W' H0 (.slice (some ⟨go, 0, none⟩) xs.length n) xs.length xs ∧ OwnBo W' H0 (.slice (some ⟨gu, 0, none⟩) n n) n (usL n xs) ∧ I (s + ordSum n wt k xs) W' := by
  induction k with
  | zero =>
    intro xs s W hx hb ho hu hi hs
    have hxn : xs.length = n := by omega
    have hgo : H0 ≤ go := (ho.lt go rfl).1
    have hgu0 : H0 ≤ gu := (hu.lt gu rfl).1
    have HVx := Lib.hid (HV s W n xs hi hxn hb (Ints.of_own ho) (by simpa using hs))
    have HO := Lib.hid ho
    have HU := Lib.hid hu
    obtain ⟨m, hm⟩ : ∃ m, m = xs.length := ⟨_, rfl⟩
    have HM := Lib.hid hm
    rw [← hm] at hxn HO ⊢
    subst hxn
    clear HV ho hu hi hx hb hm hI hz
    go_enter Try.func62, Try.ntmps62
    go_wp2_with fail
    refine HVx.out.mono ?_
    rintro e w1 ⟨rfl, hi1, hg1⟩
    have HO1 := Lib.hid (HO.out.kept hg1 (Or.inr (by intro e; have e' : go = c := Option.some.inj e; omega)))
    have HU1 := Lib.hid (HU.out.kept hg1 (Or.inr (by intro e; have e' : gu = c := Option.some.inj e; omega)))
    have HI1 := Lib.hid hi1
    clear hi1 hg1
    go_wp2_with fail
    go_ret
    exact ⟨rfl, HO1.out, HU1.out, HI1.out⟩
  | succ k ih =>
    intro xs s W hx hb ho hu hi hs
    have HREC := Lib.hid ih
    have HKN : Hid (xs.length + 1 + k = n) := by show _ = _; omega
    obtain ⟨m, hm⟩ : ∃ m, m = xs.length := ⟨_, rfl⟩
    have HM := Lib.hid hm
    have HX := Lib.hid hb
    have HS := Lib.hid hs
    have HII := Lib.hid hI
    have HZZ := Lib.hid hz
    have hmn : m < n := by omega
    have d0 : ((m : Int) == (n : Int)) = false := by rw [beq_eq_false_iff_ne]; omega
    rw [← hm] at ho HKN ⊢
    have HO := Lib.hid ho
    have HU := Lib.hid hu
    have HI := Lib.hid hi
    have HT0 : Hid (s + ordTo xs (ordSum n wt k) 0 = s) := rfl
    have HIs : Hid (I (s + ordTo xs (ordSum n wt k) 0) W) := hi
    clear ih HV ho hu hi hx hb hm hI hz hs
    go_enter Try.func62, Try.ntmps62
    go_wp2_with fail
    go_loopg [7, 8, 19] (n + 1) (fun g s7 s8 s19 wr => ∃ (j : Nat), s7 = s7 ∧ s8 = s8 ∧ j ≤ n ∧ s19 = .int .i64 j ∧ n - j < g ∧ Hid (OwnJ wr H0 (.slice (some ⟨go, 0, none⟩) m n) m xs) ∧ Hid (OwnBo wr H0 (.slice (some ⟨gu, 0, none⟩) n n) n (usL n xs)) ∧ Hid (I (s + ordTo xs (ordSum n wt k) j) wr))
    case atStart => exact ⟨0, rfl, rfl, Nat.zero_le _, rfl, by omega, HO, HU, HIs⟩
    case round =>
      clear HO HU HI HIs HT0
      obtain ⟨j, _, _, hj, rfl, hg, HO, HU, HI⟩ := hrel
      cases gk with
      | zero => omega
      | succ g =>
      by_cases hlt : j < n
      · obtain ⟨u1, u2⟩ := own_cellB HU.out hlt (usL_get xs hlt)
        have j1 : (j : Int) < (n : Int) := by omega
        have j0 : (0 : Int) ≤ (j : Int) := by omega
        by_cases hin : (j : Int) ∈ xs
        · rw [decide_eq_true hin] at u1
          have HI2 : Hid (I (s + ordTo xs (ordSum n wt k) (j + 1)) wr) := by
            have := HI.out
            show I _ _
            rw [ordTo, if_pos hin]
            exact this
          clear hin
          go_wp2_with fail
          go_roundg g
          case measure => omega
          case rel => exact ⟨j + 1, trivial, trivial, by omega, by go_num, by omega, HO, HU, HI2⟩
        · rw [decide_eq_false hin] at u1
          obtain ⟨o2, b2⟩ := own_setB HU.out j true
          rw [usL_add xs hlt] at o2
          have HU2 := Lib.hid o2
          have hgg : H0 ≤ go ∧ go < wr.heap.size := HO.out.lt go rfl
          have hgg2 : H0 ≤ gu ∧ gu < wr.heap.size := HU.out.lt gu rfl
          have HO2 := Lib.hid (HO.out.kept (grown_setC wr gu j (.bool true)) (Or.inr (by intro e; exact hgu (Option.some.inj e))))
          have HI2 := Lib.hid (HII.out _ _ _ HI.out b2)
          have HNI := Lib.hid hin
          have hz0 := HZZ.out _ _ HI2.out
          clear o2 b2 hin
          go_upto_region 8 with (fail)
          obtain ⟨w2, hw2⟩ : ∃ w2, w2 = wr.setCell ⟨gu, j, none⟩ (.bool true) := ⟨_, rfl⟩
          rw [← hw2] at HU2 HO2 HI2 hz0 ⊢
          clear hw2
          go_wp2_with (at_builtin; go_loud (refine wpList_pushR (W := w2) rfl _ _ rfl H0 go m n xs (j : Int) (by rfl) (by rfl) HO2.out hz0 (by omega) (by omega) ?_))
          intro w3 ho3 hg3
          have HU3 := Lib.hid (HU2.out.kept hg3 (Or.inr (by intro e; exact hgu (Option.some.inj e).symm)))
          have HI3 := Lib.hid (HII.out _ _ _ HI2.out ((Below.refl _ _).grown hg3 hz0 (by intro q hq; cases hq; exact hgg.1)))
          have hl1 : (xs ++ [(j : Int)]).length = m + 1 := by rw [List.length_append, ← HM.out]; rfl
          have hbnd : s + ordTo xs (ordSum n wt k) j + n ^ k ≤ M := by
            have h1 := ordTo_le (xs := xs) (f := ordSum n wt k) (fun l => ordSum_le hw k l) j
            have h2 := HS.out
            rw [Nat.pow_succ, Nat.mul_comm] at h2
            have h3 : (j + 1) * n ^ k ≤ n * n ^ k := Nat.mul_le_mul_right _ (by omega)
            rw [Nat.succ_mul] at h3
            omega
          have hcall := HREC.out (xs ++ [(j : Int)]) (s + ordTo xs (ordSum n wt k) j) w3 (by rw [hl1]; have := HKN.out; omega) (by
            intro x hx
            rcases List.mem_append.1 hx with h | h
            · exact HX.out x h
            · rw [List.mem_singleton] at h; subst h; omega) (by rw [hl1]; exact ho3) HU3.out HI3.out hbnd
          rw [hl1] at hcall
          have HCALL := Lib.hid hcall
          clear ho3 hg3 hl1 hbnd hcall HO2 HU2 HI2 HO
          go_wp2_with fail
          refine HCALL.out.mono ?_
          rintro e w4 ⟨rfl, ho4, hu4, hi4⟩
          obtain ⟨u3, u4⟩ := own_cellB hu4 hlt (usL_get (xs ++ [(j : Int)]) hlt)
          obtain ⟨o5, b5⟩ := own_setB hu4 j false
          rw [usL_back hlt HNI.out] at o5
          have HU5 := Lib.hid o5
          have HO5 := Lib.hid (own_head HM.out.symm (ho4.kept (grown_setC w4 gu j (.bool false)) (Or.inr (by intro e; exact hgu (Option.some.inj e)))))
          have HI5 : Hid (I (s + ordTo xs (ordSum n wt k) (j + 1)) (w4.setCell ⟨gu, j, none⟩ (.bool false))) := by
            have := HII.out _ _ _ hi4 b5
            show I _ _
            rw [ordTo, if_neg HNI.out, ← Nat.add_assoc]
            exact this
          clear o5 b5 ho4 hu4 hi4 HCALL
          go_wp2_with fail
          go_roundg g
          case measure => omega
          case rel => exact ⟨j + 1, trivial, trivial, by omega, by go_num, by omega, HO5, HU5, HI5⟩
      · obtain rfl : j = n := by omega
        go_wp2_with fail
        go_ret
        exact ⟨rfl, HO.out, HU.out, HI.out⟩
end Go.Proofs.Ytnckbiacfnokiaa
