/- Parts laid flat: all orders of numbers, each handed to a function that always goes on. No condition but sizes. Parts laid flat, without folds too: are layers right. No condition but sizes. Parts laid flat: how many layers are right. No condition but sizes. Parts laid flat: the numbers of right layers of a ring and of a strip. No condition but sizes. -/
import Derived.Test.YtkdlipbegdiaaaaGreatDoorEzBP26
import Derived.Laws.OwnMore
namespace Go.Proofs.YtkdlipbegdiaaaaGreatDoor
open Go.RowKit
theorem Tryz.infoBool : (Tryz.prog.info? 4).map (fun i => (i.zero, i.size, i.bytes)) = some (some (.bool false), 1, 1) := by kernel_rfl
/-- booleans in a row of the call's own -/
abbrev OwnBo (w : World) (B : Nat) (v : Value) (n : Nat) (bs : List Bool) : Prop := w.ownsRow B 4 1 v n (bs.map Value.bool)
abbrev OwnJ (w : World) (B : Nat) (v : Value) (n : Nat) (xs : List Int) : Prop := w.ownsRow B 3 1 v n (xs.map (Value.int .i64))
theorem own_setB {w : World} {B g cap : Nat} {bs : List Bool} {n : Nat} (h : OwnBo w B (.slice (some ⟨g, 0, none⟩) n cap) n bs) (k : Nat) (x : Bool) :
    OwnBo (w.setCell ⟨g, k, none⟩ (.bool x)) B (.slice (some ⟨g, 0, none⟩) n cap) n (bs.set k x) ∧ Below B w (w.setCell ⟨g, k, none⟩ (.bool x)) := by
  have st := World.ownsRow.stored h k (.bool x)
  refine ⟨?_, below_set w k _ (h.lt g rfl).1⟩
  show World.ownsRow _ _ _ _ _ _ _
  rw [List.map_set]
  exact st.1
theorem own_cellB {w : World} {B g cap : Nat} {bs : List Bool} {n : Nat} (h : OwnBo w B (.slice (some ⟨g, 0, none⟩) n cap) n bs) {k : Nat} {x : Bool} (hk : k < n) (hx : bs[k]? = some x) : w.cell? ⟨g, k, none⟩ = some (.bool x) ∧ w.frozen? ⟨g, k, none⟩ = false := by
  have r := World.ownsRow.cellAt h k (by omega)
  rw [List.getElem?_map, hx] at r
  exact ⟨r, World.ownsRow.frozenAt h k⟩
theorem made_zeroB (n : Nat) : (madeCells (Value.bool false).cells (n * 1)).toList = (List.replicate n false).map Value.bool := by
  apply List.ext_getElem
  · simp [madeCells]
  · intro i h1 h2
    simp [madeCells, Value.cells, Nat.mod_one]
/-- the head of a row -/
theorem own_head {w : World} {B g cap m : Nat} {xs : List Int} {z : Int} (hm : xs.length = m) (h : OwnJ w B (.slice (some ⟨g, 0, none⟩) (m + 1) cap) (m + 1) (xs ++ [z])) : OwnJ w B (.slice (some ⟨g, 0, none⟩) m cap) m xs := by
  rcases h.2 with ⟨e, _⟩ | ⟨g', cap', cur, e, hb, hg, hnc, hcm, hcs, htake⟩
  · cases e
  · cases e
    refine ⟨by simp [hm], Or.inr ⟨g, cap, cur, rfl, hb, hg, by omega, hcm, hcs, ?_⟩⟩
    have h1 : cur.toList.take (m * 1) = (cur.toList.take ((m + 1) * 1)).take (m * 1) := by rw [List.take_take]; congr 1; omega
    rw [h1, htake, List.map_append, List.take_append_of_le_length (by simp [hm]), List.take_of_length_le (by simp [hm])]
/-- append of one integer where there is room -/
theorem wpList_pushR {ops : Array Oper} {rest : List Oper} {o : Oper} {a : Act} {Q : Exit → Act → World → Prop} {W : World} (hgd : o.guard = none) (s x : Operand)
    (ho : o.op = .call { callee := .builtin .append, args := #[s, x], argTypes := #[23, 23] })
    (B g n cap : Nat) (xs : List Int) (z : Int) (hs : a.eval s = .slice (some ⟨g, 0, none⟩) n cap) (hx : a.eval x = .slice (some ⟨W.heap.size, 0, none⟩) 1 1) (hown : OwnJ W B (.slice (some ⟨g, 0, none⟩) n cap) n xs) (hB : B ≤ W.heap.size) (hr : n + 1 ≤ cap) (hn : n ≤ 1000000)
    (h : ∀ w', OwnJ w' B (.slice (some ⟨g, 0, none⟩) (n + 1) cap) (n + 1) (xs ++ [z]) → W.grownBy w' (some g) → wpList Tryz.prog ops Q rest (a.put o.dst (.slice (some ⟨g, 0, none⟩) (n + 1) cap)) w') :
    wpList Tryz.prog ops Q (o :: rest) a (W.alloc (.cells #[.int .i64 z] 3)) := by
  refine wpList_plain hgd fun _ hK => ?_
  obtain ⟨i0, hi, hz0, hz1, hz2⟩ := info_parts Tryz.infoInt
  have hown1 : OwnJ (W.alloc (.cells #[.int .i64 z] 3)) B (.slice (some ⟨g, 0, none⟩) n cap) n xs := hown.alloc _
  have hnews : ∀ j u, [Value.int .i64 z][j]? = some u → (W.alloc (.cells #[.int .i64 z] 3)).cell? ((⟨W.heap.size, 0, none⟩ : Addr).add j) = some u := by
    intro j u hj
    match j, hj with
    | 0, hj => cases hj; exact new_cell0 W _ _
  have h1c : ∀ u ∈ [Value.int .i64 z], u.oneCell' = true := by intro u hu; simp at hu; subst hu; rfl
  rcases hown1.2 with ⟨e, _⟩ | ⟨g', cap', cur, e, hb, hg, hnc, hcm, hcs, htake⟩
  · cases e
  · cases e
    have hml : maxLen = 9223372036854775807 := rfl
    obtain ⟨v', w', hrun, h2, h3, _⟩ := run_append_own (P := Tryz.prog) (W.alloc (.cells #[.int .i64 z] 3)) B 23 o.type 3 i0 (.int .i64 0) 1 8 Tryz.underlying23 hi hz0 hz1 hz2 rfl (by decide) (.slice (some ⟨g, 0, none⟩) n cap) n (xs.map (Value.int .i64)) hown1 ⟨W.heap.size, 0, none⟩ 1 1 [.int .i64 z] rfl hnews h1c (by omega) (by omega) (Nat.le_trans hB (by simp))
    have hlt : n < cur.size := by omega
    have hrun2 := run_append_room_cells (P := Tryz.prog) (W.alloc (.cells #[.int .i64 z] 3)) 23 o.type 3 i0 Tryz.underlying23 hi g 0 n cap ⟨W.heap.size, 0, none⟩ 1 1 [.int .i64 z] (by rw [hz1]; rfl) hnews h1c hr
      (by intro j hj
          rw [hz1]; simp at hj; subst hj
          rw [cell_of_row _ g _ cur 3 (0, 0) hg]
          simp [Array.getElem?_eq_getElem hlt]) (by intro j _; simp [World.frozen?, hg])
    have e1 : v' = .slice (some ⟨g, 0, none⟩) (n + 1) cap := by
      rw [hrun2] at hrun
      exact ((Result.ok.injEq _ _ _ _ ▸ hrun).1).symm
    subst e1
    have hg' : W.grownBy w' (some g) := ⟨h3.os, h3.tape, h3.output, Nat.le_trans (by simp) h3.size, fun k hk hne => (h3.block k (by simp; omega) hne).trans (Below.heap_alloc W _ k hk)⟩
    unfold Oper.wp execOp
    simp only [ho, resolve, invoke, builtin, Sem.run_bind, Sem.run_pure, Result.andThen_ok, List.map_toArray, List.map_cons, List.map_nil, hs, hx, hrun]
    refine hK _ _ (h w' ?_ hg')
    show World.ownsRow _ _ _ _ _ _ _
    rw [List.map_append]
    exact h2
/-- which numbers a list has -/
def usL (n : Nat) (xs : List Int) : List Bool := (List.range n).map fun (i : Nat) => decide ((i : Int) ∈ xs)
theorem usL_len (n : Nat) (xs : List Int) : (usL n xs).length = n := by simp [usL]
theorem usL_get {n i : Nat} (xs : List Int) (h : i < n) : (usL n xs)[i]? = some (decide ((i : Int) ∈ xs)) := by simp [usL, h]
theorem usL_add {n i : Nat} (xs : List Int) (h : i < n) : (usL n xs).set i true = usL n (xs ++ [(i : Int)]) := by
  apply List.ext_getElem?
  intro j
  rw [List.getElem?_set]
  by_cases hj : j < n
  · by_cases e : i = j
    · subst e
      rw [if_pos rfl, usL_len, if_pos hj, usL_get _ hj, decide_eq_true (by simp)]
    · rw [if_neg e, usL_get _ hj, usL_get _ hj]
      congr 1
      have : ((j : Int) ∈ xs ++ [(i : Int)]) ↔ (j : Int) ∈ xs := by
        rw [List.mem_append, List.mem_singleton]
        constructor
        · rintro (h | h)
          · exact h
          · omega
        · exact Or.inl
      simp only [this]
  · rw [List.getElem?_eq_none (l := usL n (xs ++ [(i : Int)])) (by rw [usL_len]; omega), List.getElem?_eq_none (l := usL n xs) (by rw [usL_len]; omega)]
    split
    · rw [usL_len, if_neg (by omega)]
    · rfl
theorem usL_back {n i : Nat} {xs : List Int} (h : i < n) (hx : (i : Int) ∉ xs) : (usL n (xs ++ [(i : Int)])).set i false = usL n xs := by
  rw [← usL_add xs h, List.set_set]
  apply List.ext_getElem?
  intro j
  rw [List.getElem?_set]
  by_cases e : i = j
  · subst e
    rw [if_pos rfl, usL_len, if_pos h, usL_get _ h, decide_eq_false hx]
  · rw [if_neg e]
/-- how many of the first j ways there are to go on, each weighed -/
def ordTo (xs : List Int) (f : List Int → Nat) : Nat → Nat
  | 0 => 0
  | j + 1 => ordTo xs f j + (if (j : Int) ∈ xs then 0 else f (xs ++ [(j : Int)]))
/-- the weights of all orders of n numbers that begin so, k of them left -/
def ordSum (n : Nat) (wt : List Int → Nat) : Nat → List Int → Nat
  | 0, xs => wt xs
  | k + 1, xs => ordTo xs (ordSum n wt k) n
theorem ordTo_le {xs : List Int} {f : List Int → Nat} {b : Nat} (hf : ∀ l, f l ≤ b) (j : Nat) : ordTo xs f j ≤ j * b := by
  induction j with
  | zero => simp [ordTo]
  | succ j ih =>
    rw [ordTo, Nat.succ_mul]
    have := hf (xs ++ [(j : Int)])
    split <;> omega
theorem ordSum_le {n : Nat} {wt : List Int → Nat} (hw : ∀ l, wt l ≤ 1) (k : Nat) : ∀ xs, ordSum n wt k xs ≤ n ^ k := by
  induction k with
  | zero => exact fun xs => hw xs
  | succ k ih =>
    intro xs
    rw [ordSum, Nat.pow_succ, Nat.mul_comm]
    exact ordTo_le ih n
set_option maxHeartbeats 2000000 in
set_option maxRecDepth 100000 in
theorem impl_eachOrder (H0 go gu c n M q2 q3 : Nat) (wt : List Int → Nat) (I : Nat → World → Prop) (hw : ∀ l, wt l ≤ 1) (hI : ∀ s W W', I s W → Below H0 W W' → I s W') (hz : ∀ s W, I s W → H0 ≤ W.heap.size) (hn : n ≤ 100) (hgu : go ≠ gu) (hc : c < H0)
    (HV : ∀ s W cap xs, I s W → xs.length = n → (∀ x ∈ xs, 0 ≤ x ∧ x < (n : Int)) → Ints W (some ⟨go, 0, none⟩) xs → s + 1 ≤ M → Calls Tryz.prog 64 #[.slice (some ⟨go, 0, none⟩) n cap, ptr q2, ptr q3] W fun e W' => e = .returned (.bool true) ∧ I (s + wt xs) W' ∧ W.grownBy W' (some c)) (k : Nat) :
    ∀ (xs : List Int) (s : Nat) (W : World), xs.length + k = n → (∀ x ∈ xs, 0 ≤ x ∧ x < (n : Int)) → OwnJ W H0 (.slice (some ⟨go, 0, none⟩) xs.length n) xs.length xs → OwnBo W H0 (.slice (some ⟨gu, 0, none⟩) n n) n (usL n xs) → I s W → s + n ^ k ≤ M →
      Calls Tryz.prog 63 #[.slice (some ⟨go, 0, none⟩) xs.length n, .slice (some ⟨gu, 0, none⟩) n n, .func (.func 64) #[] #[ptr q2, ptr q3]] W fun e W' => e = .returned (.bool true) ∧ OwnJ W' H0 (.slice (some ⟨go, 0, none⟩) xs.length n) xs.length xs ∧ OwnBo W' H0 (.slice (some ⟨gu, 0, none⟩) n n) n (usL n xs) ∧ I (s + ordSum n wt k xs) W' := by
  induction k with
  | zero =>
    intro xs s W hx hb ho hu hi hs
    have hxn : xs.length = n := by omega
    have hgo : H0 ≤ go := (ho.lt go rfl).1
    have hgu0 : H0 ≤ gu := (hu.lt gu rfl).1
    have HVx := Lib.hid (HV s W n xs hi hxn hb (Ints.of_own ho) (by simpa using hs))
    have HO := Lib.hid ho
    have HU := Lib.hid hu
    obtain ⟨m, hm⟩ : ∃ m, m = xs.length := ⟨_, rfl⟩
    have HM := Lib.hid hm
    rw [← hm] at hxn HO ⊢
    subst hxn
    clear HV ho hu hi hx hb hm hI hz
    go_enter Tryz.func63, Tryz.ntmps63
    go_wp2_with fail
    refine HVx.out.mono ?_
    rintro e w1 ⟨rfl, hi1, hg1⟩
    have HO1 := Lib.hid (HO.out.kept hg1 (Or.inr (by intro e; have e' : go = c := Option.some.inj e; omega)))
    have HU1 := Lib.hid (HU.out.kept hg1 (Or.inr (by intro e; have e' : gu = c := Option.some.inj e; omega)))
    have HI1 := Lib.hid hi1
    clear hi1 hg1
    go_wp2_with fail
    go_ret
    exact ⟨rfl, HO1.out, HU1.out, HI1.out⟩
  | succ k ih =>
    intro xs s W hx hb ho hu hi hs
    have HREC := Lib.hid ih
    have HKN : Hid (xs.length + 1 + k = n) := by show _ = _; omega
    obtain ⟨m, hm⟩ : ∃ m, m = xs.length := ⟨_, rfl⟩
    have HM := Lib.hid hm
    have HX := Lib.hid hb
    have HS := Lib.hid hs
    have HII := Lib.hid hI
    have HZZ := Lib.hid hz
    have hmn : m < n := by omega
    have d0 : ((m : Int) == (n : Int)) = false := by rw [beq_eq_false_iff_ne]; omega
    rw [← hm] at ho HKN ⊢
    have HO := Lib.hid ho
    have HU := Lib.hid hu
    have HI := Lib.hid hi
    have HT0 : Hid (s + ordTo xs (ordSum n wt k) 0 = s) := rfl
    have HIs : Hid (I (s + ordTo xs (ordSum n wt k) 0) W) := hi
    clear ih HV ho hu hi hx hb hm hI hz hs
    go_enter Tryz.func63, Tryz.ntmps63
    go_wp2_with fail
    go_loopg [7, 8, 19] (n + 1) (fun g s7 s8 s19 wr => ∃ (j : Nat), s7 = s7 ∧ s8 = s8 ∧ j ≤ n ∧ s19 = .int .i64 j ∧ n - j < g ∧ Hid (OwnJ wr H0 (.slice (some ⟨go, 0, none⟩) m n) m xs) ∧ Hid (OwnBo wr H0 (.slice (some ⟨gu, 0, none⟩) n n) n (usL n xs)) ∧ Hid (I (s + ordTo xs (ordSum n wt k) j) wr))
    case atStart => exact ⟨0, rfl, rfl, Nat.zero_le _, rfl, by omega, HO, HU, HIs⟩
    case round =>
      clear HO HU HI HIs HT0
      obtain ⟨j, _, _, hj, rfl, hg, HO, HU, HI⟩ := hrel
      cases gk with
      | zero => omega
      | succ g =>
      by_cases hlt : j < n
      · obtain ⟨u1, u2⟩ := own_cellB HU.out hlt (usL_get xs hlt)
        have j1 : (j : Int) < (n : Int) := by omega
        have j0 : (0 : Int) ≤ (j : Int) := by omega
        by_cases hin : (j : Int) ∈ xs
        · rw [decide_eq_true hin] at u1
          have HI2 : Hid (I (s + ordTo xs (ordSum n wt k) (j + 1)) wr) := by
            have := HI.out
            show I _ _
            rw [ordTo, if_pos hin]
            exact this
          clear hin
          go_wp2_with fail
          go_roundg g
          case measure => omega
          case rel => exact ⟨j + 1, trivial, trivial, by omega, by go_num, by omega, HO, HU, HI2⟩
        · rw [decide_eq_false hin] at u1
          obtain ⟨o2, b2⟩ := own_setB HU.out j true
          rw [usL_add xs hlt] at o2
          have HU2 := Lib.hid o2
          have hgg : H0 ≤ go ∧ go < wr.heap.size := HO.out.lt go rfl
          have hgg2 : H0 ≤ gu ∧ gu < wr.heap.size := HU.out.lt gu rfl
          have HO2 := Lib.hid (HO.out.kept (grown_setC wr gu j (.bool true)) (Or.inr (by intro e; exact hgu (Option.some.inj e))))
          have HI2 := Lib.hid (HII.out _ _ _ HI.out b2)
          have HNI := Lib.hid hin
          have hz0 := HZZ.out _ _ HI2.out
          clear o2 b2 hin
          go_upto_region 8 with (fail)
          obtain ⟨w2, hw2⟩ : ∃ w2, w2 = wr.setCell ⟨gu, j, none⟩ (.bool true) := ⟨_, rfl⟩
          rw [← hw2] at HU2 HO2 HI2 hz0 ⊢
          clear hw2
          go_wp2_with (at_builtin; go_loud (refine wpList_pushR (W := w2) rfl _ _ rfl H0 go m n xs (j : Int) (by rfl) (by rfl) HO2.out hz0 (by omega) (by omega) ?_))
          intro w3 ho3 hg3
          have HU3 := Lib.hid (HU2.out.kept hg3 (Or.inr (by intro e; exact hgu (Option.some.inj e).symm)))
          have HI3 := Lib.hid (HII.out _ _ _ HI2.out ((Below.refl _ _).grown hg3 hz0 (by intro q hq; cases hq; exact hgg.1)))
          have hl1 : (xs ++ [(j : Int)]).length = m + 1 := by rw [List.length_append, ← HM.out]; rfl
          have hbnd : s + ordTo xs (ordSum n wt k) j + n ^ k ≤ M := by
            have h1 := ordTo_le (xs := xs) (f := ordSum n wt k) (fun l => ordSum_le hw k l) j
            have h2 := HS.out
            rw [Nat.pow_succ, Nat.mul_comm] at h2
            have h3 : (j + 1) * n ^ k ≤ n * n ^ k := Nat.mul_le_mul_right _ (by omega)
            rw [Nat.succ_mul] at h3
            omega
          have hcall := HREC.out (xs ++ [(j : Int)]) (s + ordTo xs (ordSum n wt k) j) w3 (by rw [hl1]; have := HKN.out; omega) (by
            intro x hx
            rcases List.mem_append.1 hx with h | h
            · exact HX.out x h
            · rw [List.mem_singleton] at h; subst h; omega) (by rw [hl1]; exact ho3) HU3.out HI3.out hbnd
          rw [hl1] at hcall
          have HCALL := Lib.hid hcall
          clear ho3 hg3 hl1 hbnd hcall HO2 HU2 HI2 HO
          go_wp2_with fail
          refine HCALL.out.mono ?_
          rintro e w4 ⟨rfl, ho4, hu4, hi4⟩
          obtain ⟨u3, u4⟩ := own_cellB hu4 hlt (usL_get (xs ++ [(j : Int)]) hlt)
          obtain ⟨o5, b5⟩ := own_setB hu4 j false
          rw [usL_back hlt HNI.out] at o5
          have HU5 := Lib.hid o5
          have HO5 := Lib.hid (own_head HM.out.symm (ho4.kept (grown_setC w4 gu j (.bool false)) (Or.inr (by intro e; exact hgu (Option.some.inj e)))))
          have HI5 : Hid (I (s + ordTo xs (ordSum n wt k) (j + 1)) (w4.setCell ⟨gu, j, none⟩ (.bool false))) := by
            have := HII.out _ _ _ hi4 b5
            show I _ _
            rw [ordTo, if_neg HNI.out, ← Nat.add_assoc]
            exact this
          clear o5 b5 ho4 hu4 hi4 HCALL
          go_wp2_with fail
          go_roundg g
          case measure => omega
          case rel => exact ⟨j + 1, trivial, trivial, by omega, by go_num, by omega, HO5, HU5, HI5⟩
      · obtain rfl : j = n := by omega
        go_wp2_with fail
        go_ret
        exact ⟨rfl, HO.out, HU.out, HI.out⟩
end Go.Proofs.YtkdlipbegdiaaaaGreatDoor
namespace Go.Proofs.YtkdlipbegdiaaaaGreatDoor
open Go.RowKit
set_option maxHeartbeats 1000000 in
set_option maxRecDepth 100000 in
theorem impl_rightZ (r B n cap : Nat) (A : Option Addr) (L ps : List Int) (w : World) (h : Flat w r B n ps []) (hI : Ints w A L) (hL : L.length ≤ 1000) (hn : n ≤ 100) :
    Calls Tryz.prog 65 #[ptr r, .slice A L.length cap] w fun e w' => e = .returned (.bool (rightB L n ps [])) ∧ Below w.heap.size w w' := by
  obtain ⟨Ap, cp, Vf, hk, _, ho, _⟩ := h
  have hform : ∃ Af cf, Vf = .slice Af 0 cf := by
    rcases ho.2 with ⟨e, _⟩ | ⟨g', cap', cur, e, _⟩
    · exact ⟨_, _, e⟩
    · exact ⟨_, _, e⟩
  obtain ⟨Af, cf, rfl⟩ := hform
  have c0 : w.cell? ⟨r, 0, none⟩ = some (.int .i64 n) := hk.cell 0
  have HL := Lib.hid (impl_levelsOf A cap n L w hI hL hn)
  have HK := Lib.hid hk
  clear ho hI hL hk
  go_enter Tryz.func65, Tryz.ntmps65
  go_wp2_with fail
  refine HL.out.mono ?_
  rintro e w1 ⟨v, rfl, hv, hb1⟩
  have c1 : w1.cell? ⟨r, 2, none⟩ = some (.slice Af 0 cf) := (HK.out.below hb1 HK.out.lt).cell 2
  have HB1 := Lib.hid hb1
  have HR : Hid (rightB L n ps [] = okL L n) := by show _ = _; unfold rightB rightGo; simp
  clear HL hb1
  cases hok : okL L n with
  | true =>
    rw [hok] at HR
    have hv1 := hv hok
    obtain ⟨Al, cl, rfl, hIl, hl1, _⟩ := Own.form hv1
    clear hv hv1 hok hIl hl1
    go_wp2_with fail
    go_loopg [7, 8, 9, 10, 11, 12, 14, 31] 1 (fun g s7 s8 s9 s10 s11 s12 s14 s31 wr => s7 = s7 ∧ s8 = s8 ∧ s9 = s9 ∧ s10 = s10 ∧ s11 = s11 ∧ s12 = s12 ∧ s14 = s14 ∧ s31 = .int .i64 0 ∧ wr = w1)
    case atStart => exact ⟨rfl, rfl, rfl, rfl, rfl, rfl, rfl, rfl, rfl⟩
    case round =>
      obtain ⟨_, _, _, _, _, _, _, rfl, rfl⟩ := hrel
      go_wp2_with fail
      go_ret
      exact ⟨ret_bool (by rw [HR.out]), HB1.out⟩
  | false =>
    rw [hok] at HR
    clear hv hok
    go_wp2_with fail
    go_ret
    exact ⟨ret_bool (by rw [HR.out]), HB1.out⟩
theorem impl_rightA (r B n cap : Nat) (A : Option Addr) (L ps : List Int) (fs : List Fd) (w : World) (h : Flat w r B n ps fs) (hI : Ints w A L) (hL : L.length ≤ 1000) (hn : n ≤ 100) (hp : ps.length = n + 1) (hf : fs.length ≤ 1000) (hfd : ∀ f ∈ fs, f.1 < n ∧ f.2.1 < n) :
    Calls Tryz.prog 65 #[ptr r, .slice A L.length cap] w fun e w' => e = .returned (.bool (rightB L n ps fs)) ∧ Below w.heap.size w w' := by
  by_cases e : fs = []
  · subst e
    exact impl_rightZ r B n cap A L ps w h hI hL hn
  · exact impl_right r B n cap A L ps fs w h hI hL hn hp e hf hfd
end Go.Proofs.YtkdlipbegdiaaaaGreatDoor
namespace Go.Proofs.YtkdlipbegdiaaaaGreatDoor
open Go.RowKit
/-- one, if the layers are right -/
def rwt (n : Nat) (ps : List Int) (fs : List Fd) (L : List Int) : Nat := if rightB L n ps fs = true then 1 else 0
theorem rwt_le (n : Nat) (ps : List Int) (fs : List Fd) : ∀ L, rwt n ps fs L ≤ 1 := fun L => by unfold rwt; split <;> omega
/-- how many right layers -/
def rcount (n : Nat) (ps : List Int) (fs : List Fd) : Nat := ordSum n (rwt n ps fs) n []
theorem rcount_le (n : Nat) (ps : List Int) (fs : List Fd) : rcount n ps fs ≤ n ^ n := ordSum_le (rwt_le n ps fs) n []
/-- the counter in block c stands at s; what lay below is as it was -/
structure CntI (w0 : World) (r q2 q3 c : Nat) (s : Nat) (W : World) : Prop where
  bel : Below w0.heap.size w0 W
  b2 : Blk W q2 38 #[ptr r]
  b3 : Blk W q3 62 #[.func (.func 43) #[] #[ptr c]]
  bc : Blk W c 3 #[.int .i64 s]
theorem CntI.far {w0 W W' : World} {r q2 q3 c s H0 : Nat} (h : CntI w0 r q2 q3 c s W) (h0 : w0.heap.size ≤ H0) (h2 : q2 < H0) (h3 : q3 < H0) (hc : c < H0) (hb : Below H0 W W') : CntI w0 r q2 q3 c s W' :=
  ⟨h.bel.trans (hb.mono h0), h.b2.below hb h2, h.b3.below hb h3, h.bc.below hb hc⟩
set_option maxHeartbeats 400000 in
set_option maxRecDepth 100000 in
theorem impl_count1 (A : Option Addr) (k cap c s : Nat) (W : World) (h : Blk W c 3 #[.int .i64 s]) (hs : s ≤ 1000000) :
    Calls Tryz.prog 43 #[.slice A k cap, ptr c] W fun e W' => e = .returned (.bool true) ∧ W' = W.setCell ⟨c, 0, none⟩ (.int .i64 ((s + 1 : Nat) : Int)) := by
  have c0 : W.cell? ⟨c, 0, none⟩ = some (.int .i64 s) := h.cell 0
  have f0 := h.frozen 0
  have kw : IntKind.i64.wrap ((s : Int) + 1) = (s : Int) + 1 := IntWalk.i64_in _ (by omega)
  clear h
  go_enter Tryz.func43, Tryz.ntmps43
  go_wp2_with fail
  go_ret
  exact ⟨rfl, by push_cast; rfl⟩
set_option maxHeartbeats 400000 in
set_option maxRecDepth 100000 in
theorem impl_eachLayers1 (r B n cap q2 q3 c s : Nat) (A : Option Addr) (xs ps : List Int) (fs : List Fd) (w0 W : World) (hF : Flat w0 r B n ps fs) (hi : CntI w0 r q2 q3 c s W) (hA : Ints W A xs) (hx : xs.length = n) (hn : n ≤ 100) (hp : ps.length = n + 1) (hf : fs.length ≤ 1000) (hfd : ∀ f ∈ fs, f.1 < n ∧ f.2.1 < n)
    (hc : w0.heap.size ≤ c) (h2 : c ≠ q2) (h3 : c ≠ q3) (hs : s ≤ 1000000) :
    Calls Tryz.prog 64 #[.slice A n cap, ptr q2, ptr q3] W fun e W' => e = .returned (.bool true) ∧ CntI w0 r q2 q3 c (s + rwt n ps fs xs) W' ∧ W.grownBy W' (some c) := by
  have hr := impl_rightA r B n cap A xs ps fs W (hF.below hi.bel) hA (by omega) hn hp hf hfd
  rw [hx] at hr
  have HR := Lib.hid hr
  have HI := Lib.hid hi
  have c2 : W.cell? ⟨q2, 0, none⟩ = some (ptr r) := hi.b2.cell 0
  obtain ⟨z, hz⟩ : ∃ z, z = rightB xs n ps fs := ⟨_, rfl⟩
  have HZ : Hid (rwt n ps fs xs = if z = true then 1 else 0) := by show _ = _; unfold rwt; rw [hz]
  rw [← hz] at HR
  clear hr hi hA hx hp hf hfd hz
  go_enter Tryz.func64, Tryz.ntmps64
  go_wp2_with fail
  refine HR.out.mono ?_
  rintro e W1 ⟨rfl, hb1⟩
  have HI1 : Hid (CntI w0 r q2 q3 c s W1) := ⟨HI.out.bel.trans (hb1.mono HI.out.bel.size), HI.out.b2.below hb1 HI.out.b2.lt, HI.out.b3.below hb1 HI.out.b3.lt, HI.out.bc.below hb1 HI.out.bc.lt⟩
  have HB1 := Lib.hid hb1
  have c3 : W1.cell? ⟨q3, 0, none⟩ = some (.func (.func 43) #[] #[ptr c]) := HI1.out.b3.cell 0
  clear hb1 HR c2
  cases z with
  | false =>
    have HW : Hid (CntI w0 r q2 q3 c (s + rwt n ps fs xs) W1) := by
      show CntI _ _ _ _ _ _ _
      rw [HZ.out]
      exact HI1.out
    go_wp2_with fail
    go_ret
    exact ⟨rfl, HW.out, HB1.out.os, HB1.out.tape, HB1.out.output, HB1.out.size, fun i hi _ => HB1.out.block i hi⟩
  | true =>
    go_wp2_with fail
    refine (impl_count1 A n cap c s W1 HI1.out.bc hs).mono ?_
    rintro e W2 ⟨rfl, rfl⟩
    have HW : Hid (CntI w0 r q2 q3 c (s + rwt n ps fs xs) (W1.setCell ⟨c, 0, none⟩ (.int .i64 ((s + 1 : Nat) : Int)))) := by
      show CntI _ _ _ _ _ _ _
      rw [HZ.out, if_pos trivial]
      exact ⟨HI1.out.bel.trans (below_set W1 0 _ hc), HI1.out.b2.far (Ne.symm h2) _, HI1.out.b3.far (Ne.symm h3) _, HI1.out.bc.set_ 0 _⟩
    have HG : Hid (W.grownBy (W1.setCell ⟨c, 0, none⟩ (.int .i64 ((s + 1 : Nat) : Int))) (some c)) :=
      World.grownBy.trans (show W.grownBy W1 (some c) from ⟨HB1.out.os, HB1.out.tape, HB1.out.output, HB1.out.size, fun i hi _ => HB1.out.block i hi⟩) (grown_setC W1 c 0 _)
    go_wp2_with fail
    go_ret
    exact ⟨rfl, HW.out, HG.out⟩
theorem fal_of_new {w w' : World} {H : Nat} (h : w.grownBy w' none) (hw : w.heap.size = H) : Below H w w' := hw ▸ (Below.refl _ _).grown h (Nat.le_refl _) (fun k hk => by cases hk)
set_option maxHeartbeats 1000000 in
set_option maxRecDepth 100000 in
theorem impl_eachLayers (r B n c : Nat) (ps : List Int) (fs : List Fd) (w0 W : World) (hF : Flat w0 r B n ps fs) (hb : Below w0.heap.size w0 W) (hc : w0.heap.size ≤ c) (hK : Blk W c 3 #[.int .i64 (0 : Nat)]) (hn : n ≤ 6) (hp : ps.length = n + 1) (hf : fs.length ≤ 1000) (hfd : ∀ f ∈ fs, f.1 < n ∧ f.2.1 < n) :
    Calls Tryz.prog 42 #[ptr r, .func (.func 43) #[] #[ptr c]] W fun e W' => e = .returned (.tuple #[]) ∧ Blk W' c 3 #[.int .i64 (rcount n ps fs : Nat)] ∧ Below w0.heap.size w0 W' := by
  have hFW := hF.below hb
  obtain ⟨Ap, cp, Vf, hR, _, _, _⟩ := hFW
  have hcl := hK.lt
  have hrl := hR.lt
  have HK := Lib.hid hK
  have HB := Lib.hid hb
  have hsz := hb.size
  -- the world behind both boxes
  have hI0 : CntI w0 r W.heap.size (W.heap.size + 1) c 0 ((W.alloc (.cells #[ptr r] 38)).alloc (.cells #[.func (.func 43) #[] #[ptr c]] 62)) :=
    ⟨(hb.alloc hsz _).alloc (Nat.le_trans hsz (by simp)) _, (Blk.new W _ _).alloc _, by have := Blk.new (W.alloc (.cells #[ptr r] 38)) 62 #[.func (.func 43) #[] #[ptr c]]; simpa using this, (hK.alloc _).alloc _⟩
  have hR2 : Blk ((W.alloc (.cells #[ptr r] 38)).alloc (.cells #[.func (.func 43) #[] #[ptr c]] 62)) r 67 #[.int .i64 n, .slice Ap ps.length cp, Vf] := (hR.alloc _).alloc _
  have hsz2 : ((W.alloc (.cells #[ptr r] 38)).alloc (.cells #[.func (.func 43) #[] #[ptr c]] 62)).heap.size = W.heap.size + 2 := by simp
  obtain ⟨q2, hq2⟩ : ∃ q, q = W.heap.size := ⟨_, rfl⟩
  obtain ⟨q3, hq3⟩ : ∃ q, q = W.heap.size + 1 := ⟨_, rfl⟩
  have HF := Lib.hid hF
  have HFD := Lib.hid hfd
  have HP := Lib.hid hp
  have HFL := Lib.hid hf
  clear hF hR hfd hp hf hK hb
  go_enter Tryz.func42, Tryz.ntmps42
  go_upto_region 1 with (fail)
  obtain ⟨W2, hW2⟩ : ∃ W2, W2 = (W.alloc (.cells #[ptr r] 38)).alloc (.cells #[.func (.func 43) #[] #[ptr c]] 62) := ⟨_, rfl⟩
  rw [← hW2] at hI0 hR2 hsz2 ⊢
  rw [← hq3] at hI0 ⊢
  rw [← hq2] at hI0 ⊢
  clear hW2
  obtain ⟨i0, hi, hz0, hz1, hz2⟩ := info_parts Tryz.infoInt
  obtain ⟨w1, hrun, hown1, hg1⟩ := run_make_own (P := Tryz.prog) W2 W2.heap.size 23 3 i0 (.int .i64 0) 1 Tryz.underlying23 hi hz0 hz1 .i64 .i64 n (by rw [hz2]; omega) (by unfold maxLen; omega) (Nat.le_refl _)
  have HRun : Hid ((Instr.makeSlice 23 (.int .i64 0) (.int .i64 n)).run Tryz.prog W2 = .ok (.slice (some ⟨W2.heap.size, 0, none⟩) 0 n) w1) := by
    show _ = _
    have := hrun
    simpa using this
  have hb1 : Below W2.heap.size W2 w1 := fal_of_new hg1 rfl
  obtain ⟨j0, hj, hy0, hy1, hy2⟩ := info_parts Tryz.infoBool
  obtain ⟨w3, hrun3, ho3, hg3⟩ := run_make_full (P := Tryz.prog) w1 W2.heap.size 83 4 j0 (.bool false) 1 Tryz.underlying83 hj hy0 hy1 .i64 .i64 n (by rw [hy2]; omega) (by unfold maxLen; omega) hb1.size
  rw [made_zeroB] at ho3
  have HRun3 := Lib.hid hrun3
  have hb3 : Below w1.heap.size w1 w3 := fal_of_new hg3 rfl
  have hgo : W2.heap.size < w1.heap.size := by
    have h1 := (hown1.lt W2.heap.size rfl).2
    exact h1
  have ho4 : OwnJ w3 W2.heap.size (.slice (some ⟨W2.heap.size, 0, none⟩) 0 n) 0 [] := own_below2' hown1 hb3
  have hu4 : OwnBo w3 W2.heap.size (.slice (some ⟨w1.heap.size, 0, none⟩) n n) n (usL n []) := by
    have : usL n [] = List.replicate n false := by
      apply List.ext_getElem
      · simp [usL]
      · intro i h1 h2; simp [usL]
    show World.ownsRow _ _ _ _ _ _ _
    rw [this]; exact ho3
  have hb4 : Below W2.heap.size W2 w3 := hb1.trans (hb3.mono hb1.size)
  have hI4 : CntI w0 r q2 q3 c 0 w3 := hI0.far (by omega) (by omega) (by omega) (by omega) hb4
  have c2 : W2.cell? ⟨q2, 0, none⟩ = some (ptr r) := hI0.b2.cell 0
  have c3 : w1.cell? ⟨q2, 0, none⟩ = some (ptr r) := (hI0.b2.below hb1 hI0.b2.lt).cell 0
  have c4 : W2.cell? ⟨r, 0, none⟩ = some (.int .i64 n) := hR2.cell 0
  have c5 : w1.cell? ⟨r, 0, none⟩ = some (.int .i64 n) := (hR2.below hb1 hR2.lt).cell 0
  have HEO := Lib.hid (impl_eachOrder W2.heap.size W2.heap.size w1.heap.size c n 1000000 q2 q3 (rwt n ps fs) (CntI w0 r q2 q3 c) (rwt_le n ps fs)
    (fun s V V' h hb => h.far (by omega) (by omega) (by omega) (by omega) hb) (fun s V h => by have h1 := h.b3.lt; omega) (by omega) (by omega) (by omega)
    (fun s V cap xs h hx _ hA hs => impl_eachLayers1 r B n cap q2 q3 c s _ xs ps fs w0 V HF.out h hA hx (by omega) HP.out HFL.out HFD.out hc (by omega) (by omega) (by omega))
    n [] 0 w3 (by simp) (by intro x hx; cases hx) ho4 hu4 hI4 (by
      have : n ^ n ≤ 6 ^ 6 := Nat.le_trans (Nat.pow_le_pow_left hn n) (Nat.pow_le_pow_right (by omega) hn)
      omega))
  clear hi hz0 hz1 hz2 hrun hown1 hg1 hj hy0 hy1 hy2 hrun3 ho3 hg3 hb1 hb3 hgo ho4 hu4 hb4 hI4 hI0 hR2 hsz2 hq2 hq3
  go_wp2_with fail
  rw [HRun.out]
  go_wp2_with fail
  rw [HRun3.out]
  go_wp2_with fail
  refine HEO.out.mono ?_
  rintro e W5 ⟨rfl, _, _, hI5⟩
  have HI5 := Lib.hid hI5
  clear hI5
  go_wp2_with fail
  go_end0
  refine ⟨rfl, ?_, HI5.out.bel⟩
  have := HI5.out.bc
  rw [Nat.zero_add] at this
  exact this
set_option maxHeartbeats 400000 in
set_option maxRecDepth 100000 in
theorem impl_count (r B n : Nat) (ps : List Int) (fs : List Fd) (w : World) (hF : Flat w r B n ps fs) (hn : n ≤ 6) (hp : ps.length = n + 1) (hf : fs.length ≤ 1000) (hfd : ∀ f ∈ fs, f.1 < n ∧ f.2.1 < n) :
    Calls Tryz.prog 22 #[ptr r] w fun e w' => e = .returned (.int .i64 (rcount n ps fs : Nat)) ∧ Below w.heap.size w w' := by
  have HE := Lib.hid (impl_eachLayers r B n w.heap.size ps fs w (w.alloc (.cells #[.int .i64 (0 : Nat)] 3)) hF ((Below.refl _ _).alloc (Nat.le_refl _) _) (Nat.le_refl _) (Blk.new w _ _) hn hp hf hfd)
  obtain ⟨z, hz⟩ : ∃ z, z = rcount n ps fs := ⟨_, rfl⟩
  rw [← hz] at HE ⊢
  clear hF hn hp hf hfd hz
  go_enter Tryz.func22, Tryz.ntmps22
  go_wp2_with fail
  refine HE.out.mono ?_
  rintro e w1 ⟨rfl, hK, hb⟩
  have c0 : w1.cell? ⟨w.heap.size, 0, none⟩ = some (.int .i64 z) := hK.cell 0
  have HB := Lib.hid hb
  clear hK hb HE
  go_wp2_with fail
  go_ret
  exact ⟨rfl, HB.out⟩
end Go.Proofs.YtkdlipbegdiaaaaGreatDoor
namespace Go.Proofs.YtkdlipbegdiaaaaGreatDoor
open Go.RowKit
theorem fdS_mem {xs : List Int} {s : ByteArray} {n k : Nat} (hk : k < n) : ∀ f ∈ fdS xs s k, f.1 < n ∧ f.2.1 < n := by
  intro f hf
  unfold fdS at hf
  obtain ⟨j, hj, rfl⟩ := List.mem_map.1 hf
  rw [List.mem_range] at hj
  exact ⟨by show j < n; omega, by show j + 1 < n; omega⟩
/-- the number of right layers of a strip -/
def smany (xs : List Int) (s : ByteArray) : Nat := rcount xs.length (plcL xs) (fdS xs s s.size)
end Go.Proofs.YtkdlipbegdiaaaaGreatDoor
