/- append of one integer to a row of the call's own, told where the row lies behind it. No condition but sizes. Parts laid flat: the places of parts, whether a level lies between, the levels of parts. No condition but sizes. Patterns of vertices: which lists are patterns, how many creases they have. No program, no condition. Patterns with other numbers of creases: a vertex left out, two patterns joined. No program, no condition. -/
import Derived.Test.YtngpeehjjcgmmaaSeg
import Derived.Test.YtngpeehjjcgmmaaApp
import Derived.Test.YtngpeehjjcgmmaaPlain
namespace Go.Proofs.Ytngpeehjjcgmmaa
open Go.RowKit

theorem own_base {w : World} {B B' : Nat} {e : TypeId} {z n : Nat} {v : Value} {xs : List Value} (h : w.ownsRow B e z v n xs) (hB : ∀ g, v.ownBlock = some g → B' ≤ g) : w.ownsRow B' e z v n xs := by
  obtain ⟨h1, h2⟩ := h
  refine ⟨h1, ?_⟩
  rcases h2 with h0 | ⟨g, cap, cur, e1, hb, rest⟩
  · exact Or.inl h0
  · exact Or.inr ⟨g, cap, cur, e1, hB g (by rw [e1]; rfl), rest⟩
/-- a row that lies below b1 or from b2 on -/
def Apart (v : Value) (b1 b2 : Nat) : Prop := ∀ g, v.ownBlock = some g → g < b1 ∨ b2 ≤ g

theorem run_push2 (W : World) (B : Nat) (ty : TypeId) (v : Value) (xs : List Int) (x : Int) (hown : Own W B v xs) (hB : B ≤ W.heap.size) (ad : Addr) (c : Nat) (hx : W.cell? (ad.add 0) = some (.int .i64 x)) (hn : xs.length ≤ 1000000000000) :
    ∃ v' w', (Builtin.append_ #[23, 23] ty #[v, .slice (some ad) 1 c]).run Try.prog W = .ok v' w' ∧ Own w' B v' (xs ++ [x]) ∧ W.grownBy w' v.ownBlock ∧ (v'.ownBlock = v.ownBlock ∨ ∀ g, v'.ownBlock = some g → W.heap.size ≤ g) := by
  obtain ⟨i0, hi, hz0, hz1, hz2⟩ := info_parts Try.infoInt
  have hnews : ∀ j u, [Value.int .i64 x][j]? = some u → W.cell? (ad.add j) = some u := by
    intro j u hj
    match j, hj with
    | 0, hj => cases hj; exact hx
  have h1c : ∀ u ∈ [Value.int .i64 x], u.oneCell' = true := by intro u hu; simp at hu; subst hu; rfl
  obtain ⟨v', w', hrun, h2, h3, _⟩ := run_append_own (P := Try.prog) W B 23 ty 3 i0 (.int .i64 0) 1 8 Try.underlying23 hi hz0 hz1 hz2 rfl (by decide) v _ _ hown ad 1 c [.int .i64 x] rfl hnews h1c (by unfold maxLen; omega) (by omega) hB
  have ho : Own w' B v' (xs ++ [x]) := by simpa [Own] using h2
  refine ⟨v', w', hrun, ho, h3, ?_⟩
  rcases hown.2 with ⟨rfl, h0⟩ | ⟨g, cap, cur, rfl, hb, hg, hnc, hcm, hcs, htake⟩
  · right
    have hx0 : xs = [] := List.eq_nil_of_length_eq_zero h0
    subst hx0
    obtain ⟨v2, w2, hrun2, h22, _, _⟩ := run_append_own (P := Try.prog) W W.heap.size 23 ty 3 i0 (.int .i64 0) 1 8 Try.underlying23 hi hz0 hz1 hz2 rfl (by decide) (.slice none 0 0) 0 [] ⟨rfl, Or.inl ⟨rfl, rfl⟩⟩ ad 1 c [.int .i64 x] rfl hnews h1c (by unfold maxLen; omega) (by omega) (Nat.le_refl _)
    rw [hrun2] at hrun
    injection hrun with e1 e2
    subst e1 e2
    exact fun g hg => (h22.lt g hg).1
  · by_cases hr : xs.length + 1 ≤ cap
    · left
      have hlt : xs.length < cur.size := by omega
      have hrun2 := run_append_room_cells (P := Try.prog) W 23 ty 3 i0 Try.underlying23 hi g 0 xs.length cap ad 1 c [.int .i64 x] (by rw [hz1]; rfl) hnews h1c hr
        (by intro j hj
            rw [hz1]; simp at hj; subst hj
            rw [cell_of_row W g _ cur 3 (0, 0) hg]
            simp [Array.getElem?_eq_getElem hlt]) (by intro j _; simp [World.frozen?, hg])
      rw [hrun2] at hrun
      have e1 := (Result.ok.injEq _ _ _ _ ▸ hrun).1
      rw [← e1]
      simp [Value.ownBlock]
    · right
      have hI : Ints W (some ⟨g, 0, none⟩) xs := Ints.of_own hown
      obtain ⟨v2, w2, hrun2, hown2, _⟩ := run_append_arg_grows (P := Try.prog) W 23 ty 3 i0 (.int .i64 0) 1 8 Try.underlying23 hi hz0 hz1 hz2 rfl (by decide) ⟨g, 0, none⟩ xs.length cap (xs.map (Value.int .i64)) (by simp)
        (by intro j u hj
            have := hown.cells (g := g) rfl j u hj
            exact this)
        ad 1 c [.int .i64 x] rfl hnews (by omega) (by unfold maxLen; omega) (by omega)
      rw [hrun2] at hrun
      injection hrun with e1 e2
      subst e1 e2
      exact fun q hq => (hown2.lt q hq).1

theorem wpList_push2 {ops : Array Oper} {rest : List Oper} {o : Oper} {a : Act} {Q : Exit → Act → World → Prop} {W : World} (hgd : o.guard = none) (s x : Operand)
    (ho : o.op = .call { callee := .builtin .append, args := #[s, x], argTypes := #[23, 23] })
    (B b1 b2 : Nat) (v : Value) (xs : List Int) (z : Int) (hs : a.eval s = v) (hx : a.eval x = .slice (some ⟨W.heap.size, 0, none⟩) 1 1) (hown : Own W B v xs) (hB : B ≤ W.heap.size) (hap : Apart v b1 b2) (hb2 : b2 ≤ W.heap.size) (hn : xs.length ≤ 1000000000000)
    (h : ∀ v' w', Own w' B v' (xs ++ [z]) → W.grownBy w' v.ownBlock → Below B W w' → Apart v' b1 b2 → wpList Try.prog ops Q rest (a.put o.dst v') w') :
    wpList Try.prog ops Q (o :: rest) a (W.alloc (.cells #[.int .i64 z] 3)) := by
  refine wpList_plain hgd fun _ hK => ?_
  obtain ⟨v', w', hrun, h2, h3, h4⟩ := run_push2 (W.alloc (.cells #[.int .i64 z] 3)) B o.type v xs z (hown.alloc _) (Nat.le_trans hB (by simp)) ⟨W.heap.size, 0, none⟩ 1 (new_cell0 W _ _) hn
  have hg' : W.grownBy w' v.ownBlock := ⟨h3.os, h3.tape, h3.output, Nat.le_trans (by simp) h3.size, fun k hk hne => (h3.block k (by simp; omega) hne).trans (Below.heap_alloc W _ k hk)⟩
  have hap' : Apart v' b1 b2 := by
    intro g hg
    rcases h4 with e | e
    · exact hap g (by rw [← e]; exact hg)
    · right
      have := e g hg
      simp at this
      omega
  unfold Oper.wp execOp
  simp only [ho, resolve, invoke, builtin, Sem.run_bind, Sem.run_pure, Result.andThen_ok, List.map_toArray, List.map_cons, List.map_nil, hs, hx, hrun]
  exact hK _ _ (h v' w' h2 hg' ((Below.refl _ _).grown hg' hB fun k hk => (hown.lt k hk).1) hap')
end Go.Proofs.Ytngpeehjjcgmmaa
namespace Go.Proofs.Ytngpeehjjcgmmaa
open Go.RowKit

/-- where the part k begins -/
def plcAt (xs : List Int) : Nat → Int
  | 0 => 0
  | k + 1 => if k % 2 = 0 then plcAt xs k + xs.getD k 0 else plcAt xs k - xs.getD k 0
def plcTo (xs : List Int) (m : Nat) : List Int := (List.range m).map (plcAt xs)
def plcL (xs : List Int) : List Int := plcTo xs (xs.length + 1)
theorem plcTo_len (xs : List Int) (m : Nat) : (plcTo xs m).length = m := by simp [plcTo]
theorem plcTo_succ (xs : List Int) (m : Nat) : plcTo xs (m + 1) = plcTo xs m ++ [plcAt xs m] := by simp [plcTo, List.range_succ]
theorem plcTo_get {xs : List Int} {m k : Nat} (h : k < m) : (plcTo xs m)[k]? = some (plcAt xs k) := by simp [plcTo, h]
theorem plcAt_bd {xs : List Int} (hx : ∀ x ∈ xs, 0 ≤ x ∧ x ≤ 1000) (k : Nat) : -(1000 * (k : Int)) ≤ plcAt xs k ∧ plcAt xs k ≤ 1000 * (k : Int) := by
  induction k with
  | zero => simp [plcAt]
  | succ k ih =>
    have hg : 0 ≤ xs.getD k 0 ∧ xs.getD k 0 ≤ 1000 := by
      rw [List.getD_eq_getElem?_getD]
      cases hk : xs[k]? with
      | none => simp
      | some y => exact hx y (List.mem_of_getElem? hk)
    rw [plcAt]
    split <;> omega
theorem mod2z (k : Nat) : ((k : Int).tmod 2 = ((k % 2 : Nat) : Int)) ∧ ((k : Int) % 2 = ((k % 2 : Nat) : Int)) := by
  have h1 : (0 : Int) ≤ (k : Int) := by omega
  refine ⟨?_, ?_⟩
  · rw [Int.tmod_eq_emod_of_nonneg h1]; omega
  · omega
set_option maxHeartbeats 1000000 in
set_option maxRecDepth 100000 in
theorem impl_placesOf (A : Option Addr) (cap : Nat) (xs : List Int) (w : World) (h : Ints w A xs) (hl : xs.length ≤ 100) (hx : ∀ x ∈ xs, 0 ≤ x ∧ x ≤ 1000) :
    Calls Try.prog 49 #[.slice A xs.length cap] w fun e w' => ∃ v, e = .returned v ∧ Own w' w.heap.size v (plcL xs) ∧ Below w.heap.size w w' := by
  go_enter Try.func49, Try.ntmps49
  obtain ⟨i0, hi, hz0, hz1, hz2⟩ := info_parts Try.infoInt
  obtain ⟨w1, hrun, hown1, hg1⟩ := run_make_own (P := Try.prog) w w.heap.size 23 3 i0 (.int .i64 0) 1 Try.underlying23 hi hz0 hz1 .i64 .i64 (xs.length + 1) (by rw [hz2]; omega) (by unfold maxLen; omega) (Nat.le_refl _)
  have hb1 : Below w.heap.size w w1 := (Below.refl _ _).grown hg1 (Nat.le_refl _) (by intro k hk; cases hk)
  have HRun : Hid ((Instr.makeSlice 23 (.int .i64 0) (.int .i64 ((xs.length : Int) + 1))).run Try.prog w = .ok (.slice (some ⟨w.heap.size, 0, none⟩) 0 (xs.length + 1)) w1) := by
    show _ = _
    have := hrun
    simpa using this
  have hown1' : Own w1 w.heap.size (.slice (some ⟨w.heap.size, 0, none⟩) 0 (xs.length + 1)) (plcTo xs 0) := hown1
  have HB1 := Lib.hid hb1
  have hsz1 := hb1.size
  clear hi hz0 hz1 hz2 hrun hown1 hg1 hb1
  go_wp2_with fail
  rw [HRun.out]
  clear HRun
  go_wp2_with (at_builtin; go_loud (refine wpList_push (W := w1) rfl _ _ rfl w.heap.size _ (plcTo xs 0) 0 (by rfl) (by rfl) hown1' hsz1 (by simp [plcTo]) ?_))
  intro v2 w2 hown2 hgr2 hb2
  have HO2 : Hid (Own w2 w.heap.size v2 (plcTo xs 1)) := by
    have : plcTo xs 1 = plcTo xs 0 ++ [0] := plcTo_succ xs 0
    show Own _ _ _ _
    rw [this]; exact hown2
  have HB2 := Lib.hid (HB1.out.trans hb2)
  clear hown1' hown2 hgr2 hb2 hsz1 HB1
  go_wp2_with fail
  go_loopg [3, 4, 5, 6, 17] (xs.length + 1) (fun g s3 s4 s5 s6 s17 wr => ∃ (k : Nat), s5 = s5 ∧ s6 = s6 ∧ k ≤ xs.length ∧ s17 = .int .i64 k ∧ s4 = .int .i64 (plcAt xs k) ∧ xs.length - k < g ∧ Hid (Own wr w.heap.size s3 (plcTo xs (k + 1))) ∧ Hid (Below w.heap.size w wr))
  case atStart => exact ⟨0, rfl, rfl, Nat.zero_le _, rfl, rfl, by omega, HO2, HB2⟩
  case round =>
    clear HO2 HB2
    obtain ⟨k, _, _, hk, rfl, rfl, hg, HO, HB⟩ := hrel
    cases gk with
    | zero => omega
    | succ g =>
    by_cases hlt : k < xs.length
    · obtain ⟨b, off, rfl, hb, hc⟩ := h.below HB.out (by intro e; rw [e] at hlt; simp at hlt)
      have r1 := hc k xs[k] (List.getElem?_eq_getElem hlt)
      have hxk := hx xs[k] (List.getElem_mem hlt)
      have hpb := plcAt_bd hx k
      have hnext : plcAt xs (k + 1) = if k % 2 = 0 then plcAt xs k + xs[k] else plcAt xs k - xs[k] := by
        rw [plcAt, List.getD_eq_getElem?_getD, List.getElem?_eq_getElem hlt]; rfl
      obtain ⟨x, hx0⟩ : ∃ x, x = xs[k] := ⟨_, rfl⟩
      obtain ⟨p, hp0⟩ : ∃ p, p = plcAt xs k := ⟨_, rfl⟩
      rw [← hx0] at r1 hxk hnext
      rw [← hp0] at hpb hnext ⊢
      obtain ⟨m1, m2⟩ := mod2z k
      have k1 : (k : Int) < (xs.length : Int) := by omega
      have k0 : (0 : Int) ≤ (k : Int) := by omega
      have hT := plcTo_succ xs (k + 1)
      have hown := HO.out
      have hsz := HB.out.size
      have hln : (plcTo xs (k + 1)).length ≤ 101 := by rw [plcTo_len]; omega
      by_cases he : k % 2 = 0
      · rw [if_pos he] at hnext
        rw [he] at m1 m2
        have kw : IntKind.i64.wrap (p + x) = p + x := IntWalk.i64_in _ (by omega)
        rw [hnext] at hT
        have HT := Lib.hid hT
        have HN := Lib.hid hnext
        clear hc hx0 hp0 hnext hT he HO
        go_wp2_with (at_builtin; go_loud (refine wpList_push (W := wr) rfl _ _ rfl w.heap.size _ (plcTo xs (k + 1)) (p + x) (by rfl) (by rfl) hown hsz (by omega) ?_))
        intro v3 w3 hown3 hgr3 hb3
        rw [← HT.out] at hown3
        have HO3 := Lib.hid hown3
        have HB3 := Lib.hid (HB.out.trans hb3)
        clear hown hown3 hgr3 hb3
        go_wp2_with fail
        go_roundg g
        case measure => omega
        case rel => exact ⟨k + 1, trivial, trivial, by omega, by go_num, by rw [HN.out], by omega, HO3, HB3⟩
      · rw [if_neg he] at hnext
        rw [show k % 2 = 1 from by omega] at m1 m2
        have kw : IntKind.i64.wrap (p - x) = p - x := IntWalk.i64_in _ (by omega)
        rw [hnext] at hT
        have HT := Lib.hid hT
        have HN := Lib.hid hnext
        clear hc hx0 hp0 hnext hT he HO
        go_wp2_with (at_builtin; go_loud (refine wpList_push (W := wr) rfl _ _ rfl w.heap.size _ (plcTo xs (k + 1)) (p - x) (by rfl) (by rfl) hown hsz (by omega) ?_))
        intro v3 w3 hown3 hgr3 hb3
        rw [← HT.out] at hown3
        have HO3 := Lib.hid hown3
        have HB3 := Lib.hid (HB.out.trans hb3)
        clear hown hown3 hgr3 hb3
        go_wp2_with fail
        go_roundg g
        case measure => omega
        case rel => exact ⟨k + 1, trivial, trivial, by omega, by go_num, by rw [HN.out], by omega, HO3, HB3⟩
    · obtain rfl : k = xs.length := by omega
      go_wp2_with fail
      go_ret
      exact ⟨_, rfl, HO.out, HB.out⟩
def betB (l a b : Int) : Bool := decide (min a b < l) && decide (l < max a b)
set_option maxHeartbeats 400000 in
theorem impl_isBetween (l a b : Int) (w : World) :
    Calls Try.prog 54 #[.int .i64 l, .int .i64 a, .int .i64 b] w fun e w' => e = .returned (.bool (betB l a b)) ∧ w = w' := by
  go_enter Try.func54, Try.ntmps54
  go_wp2_with fail
  all_goals
    go_ret
    refine ⟨ret_bool ?_, rfl⟩
    rw [Bool.eq_iff_iff]
    unfold betB
    simp only [Bool.and_eq_true, decide_eq_true_eq, Bool.false_eq_true, false_iff]
    omega
end Go.Proofs.Ytngpeehjjcgmmaa
namespace Go.Proofs.Ytngpeehjjcgmmaa

/-- creases are different and in their range -/
def crGo : List Int → List Int → Bool
  | _, [] => true
  | seen, x :: r => if x < 0 then false else if 9 < x then false else if x ∈ seen then false else crGo (seen ++ [x]) r
def crB (cs : List Int) : Bool := crGo [] cs
def vtxB (v : List Int × List Int) : Bool := acB v.1 && decide (v.2.length = v.1.length) && crB v.2
/-- to how many vertices a crease belongs -/
def useN : List (List Int × List Int) → Int → Nat
  | [], _ => 0
  | v :: r, k => (if k ∈ v.2 then 1 else 0) + useN r k
/-- the number of creases, if they are numbered from 0 on -/
def mxGo : Int → List Int → Int
  | m, [] => m
  | m, x :: r => mxGo (if m < x + 1 then x + 1 else m) r
def ncGo : Int → List (List Int × List Int) → Int
  | m, [] => m
  | m, v :: r => ncGo (mxGo m v.2) r
def ncr (vs : List (List Int × List Int)) : Int := ncGo 0 vs
def usesOk (vs : List (List Int × List Int)) : Nat → Bool
  | 0 => true
  | k + 1 => usesOk vs k && (decide (1 ≤ useN vs k) && decide (useN vs k ≤ 2))
def patB (vs : List (List Int × List Int)) : Bool :=
  decide (1 ≤ vs.length) && decide (vs.length ≤ 3) && vs.all vtxB && usesOk vs (ncr vs).toNat

theorem crGo_iff (seen cs : List Int) : crGo seen cs = true ↔ (∀ x ∈ cs, 0 ≤ x ∧ x ≤ 9 ∧ x ∉ seen) ∧ cs.Nodup := by
  induction cs generalizing seen with
  | nil => simp [crGo]
  | cons x r ih =>
    rw [crGo]
    by_cases h1 : x < 0
    · rw [if_pos h1]
      simp only [Bool.false_eq_true, false_iff]
      rintro ⟨h, _⟩
      have := h x (by simp)
      omega
    · rw [if_neg h1]
      by_cases h2 : 9 < x
      · rw [if_pos h2]
        simp only [Bool.false_eq_true, false_iff]
        rintro ⟨h, _⟩
        have := h x (by simp)
        omega
      · rw [if_neg h2]
        by_cases h3 : x ∈ seen
        · rw [if_pos h3]
          simp only [Bool.false_eq_true, false_iff]
          rintro ⟨h, _⟩
          exact (h x (by simp)).2.2 h3
        · rw [if_neg h3, ih, List.nodup_cons]
          constructor
          · rintro ⟨h, hn⟩
            refine ⟨fun y hy => ?_, ?_, hn⟩
            · rcases List.mem_cons.1 hy with rfl | hy
              · exact ⟨by omega, by omega, h3⟩
              · have := h y hy
                simp at this
                exact ⟨this.1, this.2.1, this.2.2.1⟩
            · intro hx
              have := (h x hx).2.2
              simp at this
          · rintro ⟨h, hx, hn⟩
            refine ⟨fun y hy => ?_, hn⟩
            have := h y (by simp [hy])
            refine ⟨this.1, this.2.1, ?_⟩
            simp only [List.mem_append, List.mem_singleton, not_or]
            exact ⟨this.2.2, fun e => hx (e ▸ hy)⟩
theorem crB_iff (cs : List Int) : crB cs = true ↔ (∀ x ∈ cs, 0 ≤ x ∧ x ≤ 9) ∧ cs.Nodup := by
  unfold crB
  rw [crGo_iff]
  constructor
  · rintro ⟨h, hn⟩; exact ⟨fun x hx => ⟨(h x hx).1, (h x hx).2.1⟩, hn⟩
  · rintro ⟨h, hn⟩; exact ⟨fun x hx => ⟨(h x hx).1, (h x hx).2, by simp⟩, hn⟩
theorem mxGo_le (m : Int) (cs : List Int) : m ≤ mxGo m cs ∧ ∀ x ∈ cs, x + 1 ≤ mxGo m cs := by
  induction cs generalizing m with
  | nil => exact ⟨Int.le_refl _, fun x h => by cases h⟩
  | cons y r ih =>
    rw [mxGo]
    have h := ih (if m < y + 1 then y + 1 else m)
    constructor
    · refine Int.le_trans ?_ h.1; split <;> omega
    · intro x hx
      rcases List.mem_cons.1 hx with rfl | hx
      · refine Int.le_trans ?_ h.1; split <;> omega
      · exact h.2 x hx
theorem mxGo_is (m : Int) (cs : List Int) : mxGo m cs = m ∨ ∃ x ∈ cs, mxGo m cs = x + 1 := by
  induction cs generalizing m with
  | nil => exact Or.inl rfl
  | cons y r ih =>
    rw [mxGo]
    rcases ih (if m < y + 1 then y + 1 else m) with h | ⟨x, hx, h⟩
    · rw [h]
      split
      · exact Or.inr ⟨y, by simp, rfl⟩
      · exact Or.inl rfl
    · exact Or.inr ⟨x, by simp [hx], h⟩
theorem ncGo_le (m : Int) (vs : List (List Int × List Int)) : m ≤ ncGo m vs ∧ ∀ v ∈ vs, ∀ x ∈ v.2, x + 1 ≤ ncGo m vs := by
  induction vs generalizing m with
  | nil => exact ⟨Int.le_refl _, fun x h => by cases h⟩
  | cons y r ih =>
    rw [ncGo]
    have h := ih (mxGo m y.2)
    have h2 := mxGo_le m y.2
    constructor
    · exact Int.le_trans h2.1 h.1
    · intro v hv x hx
      rcases List.mem_cons.1 hv with rfl | hv
      · exact Int.le_trans (h2.2 x hx) h.1
      · exact h.2 v hv x hx
theorem ncGo_is (m : Int) (vs : List (List Int × List Int)) : ncGo m vs = m ∨ ∃ v ∈ vs, ∃ x ∈ v.2, ncGo m vs = x + 1 := by
  induction vs generalizing m with
  | nil => exact Or.inl rfl
  | cons y r ih =>
    rw [ncGo]
    rcases ih (mxGo m y.2) with h | ⟨v, hv, x, hx, h⟩
    · rw [h]
      rcases mxGo_is m y.2 with h2 | ⟨x, hx, h2⟩
      · exact Or.inl h2
      · exact Or.inr ⟨y, by simp, x, hx, h2⟩
    · exact Or.inr ⟨v, by simp [hv], x, hx, h⟩
theorem useN_pos {vs : List (List Int × List Int)} {k : Int} : 0 < useN vs k ↔ ∃ v ∈ vs, k ∈ v.2 := by
  induction vs with
  | nil => simp [useN]
  | cons y r ih =>
    rw [useN]
    by_cases h : k ∈ y.2
    · rw [if_pos h]
      exact ⟨fun _ => ⟨y, by simp, h⟩, fun _ => by omega⟩
    · rw [if_neg h, Nat.zero_add, ih]
      constructor
      · rintro ⟨v, hv, hk⟩; exact ⟨v, by simp [hv], hk⟩
      · rintro ⟨v, hv, hk⟩
        rcases List.mem_cons.1 hv with rfl | hv
        · exact absurd hk h
        · exact ⟨v, hv, hk⟩
theorem useN_le (vs : List (List Int × List Int)) (k : Int) : useN vs k ≤ vs.length := by
  induction vs with
  | nil => simp [useN]
  | cons y r ih => rw [useN, List.length_cons]; split <;> omega
theorem useN_app (us vs : List (List Int × List Int)) (k : Int) : useN (us ++ vs) k = useN us k + useN vs k := by
  induction us with
  | nil => simp [useN]
  | cons y r ih => rw [List.cons_append, useN, useN, ih]; omega
/-- the counts of the first n creases -/
def usesL (vs : List (List Int × List Int)) (n : Nat) : List Int := (List.range n).map fun (k : Nat) => (useN vs (k : Int) : Int)
theorem usesL_len (vs : List (List Int × List Int)) (n : Nat) : (usesL vs n).length = n := by simp [usesL]
theorem usesL_get (vs : List (List Int × List Int)) {n k : Nat} (h : k < n) : (usesL vs n)[k]? = some (useN vs (k : Int) : Int) := by simp [usesL, h]
end Go.Proofs.Ytngpeehjjcgmmaa
namespace Go.Proofs.Ytngpeehjjcgmmaa

/-- a vertex with other numbers -/
def renV (f : Nat → Int) (v : List Int × List Int) : List Int × List Int := (v.1, v.2.map fun c => f c.toNat)
theorem renV_congr {f g : Nat → Int} {v : List Int × List Int} (h : ∀ c ∈ v.2, f c.toNat = g c.toNat) : renV f v = renV g v := by
  unfold renV
  rw [List.map_congr_left h]
/-- of the first k creases those that are used -/
def numW (vs : List (List Int × List Int)) : Nat → Nat
  | 0 => 0
  | k + 1 => numW vs k + (if 0 < useN vs (k : Int) then 1 else 0)
theorem numW_le (vs : List (List Int × List Int)) (k : Nat) : numW vs k ≤ k := by
  induction k with
  | zero => simp [numW]
  | succ k ih => rw [numW]; split <;> omega
def withoutL (vs : List (List Int × List Int)) (k : Nat) : List (List Int × List Int) := (vs.eraseIdx k).map (renV fun c => (numW (vs.eraseIdx k) c : Int))
/-- the new numbers of the second pattern of two -/
def numJ (na i j : Int) (k : Nat) : Int := if (k : Int) = j then i else if (k : Int) < j then na + (k : Int) else na + (k : Int) - 1
def joinL (us vs : List (List Int × List Int)) (i j : Int) : List (List Int × List Int) := us ++ vs.map (renV (numJ (ncr us) i j))
/-- may two patterns be joined there -/
def joinB (us vs : List (List Int × List Int)) (i j : Int) : Bool := patB us && patB vs && decide (useN us i = 1) && decide (useN vs j = 1) && patB (joinL us vs i j)
def withoutB (vs : List (List Int × List Int)) (k : Int) : Bool := patB vs && decide (0 ≤ k) && decide (k < vs.length) && decide (vs.length ≠ 1)

theorem useN_erase {vs : List (List Int × List Int)} {k : Nat} (h : k < vs.length) (c : Int) : useN vs c = useN (vs.eraseIdx k) c + (if c ∈ vs[k].2 then 1 else 0) := by
  induction vs generalizing k with
  | nil => simp at h
  | cons v r ih =>
    cases k with
    | zero => simp [useN]; omega
    | succ k =>
      have hk : k < r.length := by simpa using h
      rw [List.eraseIdx_cons_succ, useN, useN, ih hk]
      simp only [List.getElem_cons_succ]
      omega
theorem useN_out {vs : List (List Int × List Int)} {c : Int} (h : c < 0 ∨ ncr vs ≤ c) (hv : ∀ v ∈ vs, ∀ x ∈ v.2, 0 ≤ x) : useN vs c = 0 := by
  rcases Nat.eq_zero_or_pos (useN vs c) with h0 | h0
  · exact h0
  · exfalso
    obtain ⟨v, hm, hc⟩ := useN_pos.1 h0
    have h1 := hv v hm c hc
    have h2 := (ncGo_le 0 vs).2 v hm c hc
    unfold ncr at h
    omega
theorem renV_id {v : List Int × List Int} (h : ∀ c ∈ v.2, 0 ≤ c) : renV (fun c => (c : Int)) v = v := by
  obtain ⟨x, y⟩ := v
  unfold renV
  congr 1
  have : y.map (fun c => ((c.toNat : Nat) : Int)) = y.map id := List.map_congr_left fun c hc => by have := h c hc; show ((c.toNat : Nat) : Int) = c; omega
  rw [this, List.map_id]
/-- the counts, some vertex's creases taken off -/
def decL (vs : List (List Int × List Int)) (cs : List Int) (n : Nat) : List Int := (List.range n).map fun (k : Nat) => (useN vs (k : Int) : Int) - (if (k : Int) ∈ cs then 1 else 0)
theorem decL_len (vs : List (List Int × List Int)) (cs : List Int) (n : Nat) : (decL vs cs n).length = n := by simp [decL]
theorem decL_nil (vs : List (List Int × List Int)) (n : Nat) : decL vs [] n = usesL vs n := by simp [decL, usesL]
theorem decL_all {vs : List (List Int × List Int)} {k : Nat} (h : k < vs.length) (n : Nat) : decL vs vs[k].2 n = usesL (vs.eraseIdx k) n := by
  unfold decL usesL
  refine List.map_congr_left fun j _ => ?_
  have := useN_erase h (j : Int)
  split <;> simp_all
theorem decL_get {vs : List (List Int × List Int)} {cs : List Int} {n m : Nat} (hm : m < n) (h : (m : Int) ∉ cs) : (decL vs cs n)[m]? = some (useN vs (m : Int) : Int) := by
  simp [decL, hm, h]
theorem decL_set {vs : List (List Int × List Int)} {cs : List Int} {n m j : Nat} (hj : j < cs.length) (hc : cs[j] = (m : Int)) (hn : cs.Nodup) :
    (m : Int) ∉ cs.take j ∧ (decL vs (cs.take j) n).set m ((useN vs (m : Int) : Int) - 1) = decL vs (cs.take (j + 1)) n := by
  have hnot : (m : Int) ∉ cs.take j := by
    intro hin
    obtain ⟨i, hi, e⟩ := List.getElem_of_mem hin
    have hij : i < j := by simpa using (by rw [List.length_take] at hi; omega : i < j)
    rw [List.getElem_take] at e
    have hne := (List.nodup_iff_pairwise_ne.1 hn)
    have := List.pairwise_iff_getElem.1 hne i j (by omega) hj hij
    exact this (by rw [e, hc])
  refine ⟨hnot, ?_⟩
  apply List.ext_getElem?
  intro k
  rw [List.getElem?_set]
  by_cases hk : k < n
  · by_cases e : m = k
    · subst e
      rw [if_pos rfl, decL_len, if_pos hk]
      simp only [decL, List.getElem?_map, List.getElem?_range hk, Option.map_some]
      rw [if_pos]
      rw [List.take_succ_eq_append_getElem hj, hc]; simp
    · rw [if_neg e]
      simp only [decL, List.getElem?_map, List.getElem?_range hk, Option.map_some]
      congr 2
      rw [List.take_succ_eq_append_getElem hj, hc]
      have : ¬ (k : Int) = (m : Int) := by omega
      simp [this]
  · rw [List.getElem?_eq_none (by rw [decL_len]; omega), List.getElem?_eq_none (by rw [decL_len]; omega)]
    split
    · rw [decL_len, if_neg (by omega)]
    · rfl
/-- the new numbers of the first j creases -/
def numL (vs : List (List Int × List Int)) (n j : Nat) : List Int := (List.range n).map fun (k : Nat) => if k < j ∧ 0 < useN vs (k : Int) then (numW vs k : Int) else 0
theorem numL_len (vs : List (List Int × List Int)) (n j : Nat) : (numL vs n j).length = n := by simp [numL]
theorem numL_zero (vs : List (List Int × List Int)) (n : Nat) : numL vs n 0 = List.replicate n 0 := by
  apply List.ext_getElem?
  intro k
  by_cases hk : k < n <;> simp [numL, hk]
theorem numL_yes {vs : List (List Int × List Int)} {n j : Nat} (h : 0 < useN vs (j : Int)) : (numL vs n j).set j (numW vs j : Int) = numL vs n (j + 1) := by
  apply List.ext_getElem?
  intro k
  rw [List.getElem?_set]
  by_cases hk : k < n
  · by_cases e : j = k
    · subst e
      rw [if_pos rfl, numL_len, if_pos hk]
      simp [numL, hk, h]
    · rw [if_neg e]
      simp only [numL, List.getElem?_map, List.getElem?_range hk, Option.map_some]
      congr 1
      have : (k < j ∧ 0 < useN vs (k : Int)) ↔ (k < j + 1 ∧ 0 < useN vs (k : Int)) := by constructor <;> rintro ⟨h1, h2⟩ <;> exact ⟨by omega, h2⟩
      by_cases q : k < j ∧ 0 < useN vs (k : Int)
      · rw [if_pos q, if_pos (this.1 q)]
      · rw [if_neg q, if_neg (fun x => q (this.2 x))]
  · rw [List.getElem?_eq_none (by rw [numL_len]; omega), List.getElem?_eq_none (by rw [numL_len]; omega)]
    split
    · rw [numL_len, if_neg (by omega)]
    · rfl
theorem numL_no {vs : List (List Int × List Int)} {n j : Nat} (h : ¬ 0 < useN vs (j : Int)) : numL vs n j = numL vs n (j + 1) := by
  unfold numL
  refine List.map_congr_left fun k _ => ?_
  have : (k < j ∧ 0 < useN vs (k : Int)) ↔ (k < j + 1 ∧ 0 < useN vs (k : Int)) := by
    constructor
    · rintro ⟨h1, h2⟩; exact ⟨by omega, h2⟩
    · rintro ⟨h1, h2⟩
      refine ⟨?_, h2⟩
      rcases Nat.lt_or_ge k j with h3 | h3
      · exact h3
      · have : k = j := by omega
        subst this; exact absurd h2 h
  by_cases q : k < j ∧ 0 < useN vs (k : Int)
  · rw [if_pos q, if_pos (this.1 q)]
  · rw [if_neg q, if_neg (fun x => q (this.2 x))]
theorem numL_get {vs : List (List Int × List Int)} {n c : Nat} (hc : c < n) (h : 0 < useN vs (c : Int)) : (numL vs n n)[c]? = some (numW vs c : Int) := by simp [numL, hc, h]
/-- what is left of a pattern, or nothing -/
def woR (vs : List (List Int × List Int)) (k : Int) : List (List Int × List Int) := if withoutB vs k then withoutL vs k.toNat else []
theorem withoutL_len {vs : List (List Int × List Int)} {k : Nat} (h : k < vs.length) : (withoutL vs k).length = vs.length - 1 := by
  unfold withoutL; rw [List.length_map, List.length_eraseIdx, if_pos h]
/-- how many are done behind k rounds -/
def doneN (at_ k : Nat) : Nat := if at_ < k then k - 1 else k
theorem withoutL_get {vs : List (List Int × List Int)} {at_ k : Nat} (h : k < vs.length) (hne : k ≠ at_) : (withoutL vs at_)[doneN at_ k]? = some (renV (fun c => (numW (vs.eraseIdx at_) c : Int)) vs[k]) := by
  unfold withoutL doneN
  rw [List.getElem?_map, List.getElem?_eraseIdx]
  by_cases q : at_ < k
  · rw [if_pos q, if_neg (by omega), show k - 1 + 1 = k from by omega, List.getElem?_eq_getElem h]; rfl
  · rw [if_neg q, if_pos (by omega), List.getElem?_eq_getElem h]; rfl
theorem erase_mem {vs : List (List Int × List Int)} {at_ k : Nat} (h : k < vs.length) (hne : k ≠ at_) : vs[k] ∈ vs.eraseIdx at_ := by
  have : (vs.eraseIdx at_)[doneN at_ k]? = some vs[k] := by
    unfold doneN
    rw [List.getElem?_eraseIdx]
    by_cases q : at_ < k
    · rw [if_pos q, if_neg (by omega), show k - 1 + 1 = k from by omega, List.getElem?_eq_getElem h]
    · rw [if_neg q, if_pos (by omega), List.getElem?_eq_getElem h]
  exact List.mem_of_getElem? this
/-- the new numbers of all creases, used or not -/
def wNum (vs : List (List Int × List Int)) (j : Nat) : List Int := (List.range j).map fun (k : Nat) => (numW vs k : Int)
theorem wNum_len (vs : List (List Int × List Int)) (j : Nat) : (wNum vs j).length = j := by simp [wNum]
theorem wNum_succ (vs : List (List Int × List Int)) (j : Nat) : wNum vs (j + 1) = wNum vs j ++ [(numW vs j : Int)] := by simp [wNum, List.range_succ]
theorem wNum_get {vs : List (List Int × List Int)} {j c : Nat} (h : c < j) : (wNum vs j)[c]? = some (numW vs c : Int) := by simp [wNum, h]
/-- the first t of n numbers filled in -/
def fillTo (f : Nat → Int) (n t : Nat) : List Int := (List.range n).map fun (k : Nat) => if k < t then f k else 0
theorem fillTo_len (f : Nat → Int) (n t : Nat) : (fillTo f n t).length = n := by simp [fillTo]
theorem fillTo_zero (f : Nat → Int) (n : Nat) : fillTo f n 0 = List.replicate n 0 := by
  apply List.ext_getElem?
  intro k
  by_cases hk : k < n <;> simp [fillTo, hk]
theorem fillTo_set (f : Nat → Int) {n t : Nat} : (fillTo f n t).set t (f t) = fillTo f n (t + 1) := by
  apply List.ext_getElem?
  intro k
  rw [List.getElem?_set]
  by_cases hk : k < n
  · by_cases e : t = k
    · subst e
      rw [if_pos rfl, fillTo_len, if_pos hk]
      simp [fillTo, hk]
    · rw [if_neg e]
      simp only [fillTo, List.getElem?_map, List.getElem?_range hk, Option.map_some]
      congr 1
      by_cases q : k < t
      · rw [if_pos q, if_pos (by omega)]
      · rw [if_neg q, if_neg (by omega)]
  · rw [List.getElem?_eq_none (by rw [fillTo_len]; omega), List.getElem?_eq_none (by rw [fillTo_len]; omega)]
    split
    · rw [fillTo_len, if_neg (by omega)]
    · rfl
theorem fillTo_get {f : Nat → Int} {n c : Nat} (h : c < n) : (fillTo f n n)[c]? = some (f c) := by simp [fillTo, h]
/-- two patterns joined, or nothing -/
def jR (us vs : List (List Int × List Int)) (i j : Int) : List (List Int × List Int) := if joinB us vs i j then joinL us vs i j else []
theorem joinL_len (us vs : List (List Int × List Int)) (i j : Int) : (joinL us vs i j).length = us.length + vs.length := by simp [joinL]
theorem joinL_left {us vs : List (List Int × List Int)} {i j : Int} {k : Nat} (h : k < us.length) : (joinL us vs i j)[k]? = some us[k] := by
  unfold joinL; rw [List.getElem?_append_left h, List.getElem?_eq_getElem h]
theorem joinL_right {us vs : List (List Int × List Int)} {i j : Int} {k : Nat} (h : k < vs.length) : (joinL us vs i j)[us.length + k]? = some (renV (numJ (ncr us) i j) vs[k]) := by
  unfold joinL
  rw [List.getElem?_append_right (by omega), List.getElem?_map, show us.length + k - us.length = k from by omega, List.getElem?_eq_getElem h]; rfl
theorem joinB_no {us vs : List (List Int × List Int)} {i j : Int} (h : patB us = false ∨ patB vs = false ∨ useN us i ≠ 1 ∨ useN vs j ≠ 1) : joinB us vs i j = false := by
  unfold joinB
  rcases h with h | h | h | h
  · rw [h]; rfl
  · rw [h, Bool.and_false]; rfl
  · rw [decide_eq_false h]; simp
  · rw [decide_eq_false h]; simp
theorem joinB_yes {us vs : List (List Int × List Int)} {i j : Int} (h1 : patB us = true) (h2 : patB vs = true) (h3 : useN us i = 1) (h4 : useN vs j = 1) : joinB us vs i j = patB (joinL us vs i j) := by
  unfold joinB
  rw [h1, h2, decide_eq_true h3, decide_eq_true h4]; rfl
/-- the number that comes next -/
def nxJ (na j : Int) (k : Nat) : Int := if j < (k : Int) then na + (k : Int) - 1 else na + (k : Int)
theorem nxJ_at {na j : Int} {k : Nat} (h : (k : Int) = j) : nxJ na j (k + 1) = nxJ na j k := by unfold nxJ; split <;> split <;> omega
theorem nxJ_no {na i j : Int} {k : Nat} (h : ¬ (k : Int) = j) : nxJ na j (k + 1) = nxJ na j k + 1 ∧ numJ na i j k = nxJ na j k := by
  unfold nxJ numJ
  rw [if_neg h]
  constructor
  · split <;> split <;> omega
  · split <;> split <;> omega
theorem numJ_at {na i j : Int} {k : Nat} (h : (k : Int) = j) : numJ na i j k = i := by unfold numJ; rw [if_pos h]
/-- the new numbers of the second pattern's creases -/
def jNum (na i j : Int) (n : Nat) : List Int := (List.range n).map (numJ na i j)
theorem jNum_len (na i j : Int) (n : Nat) : (jNum na i j n).length = n := by simp [jNum]
theorem jNum_succ (na i j : Int) (n : Nat) : jNum na i j (n + 1) = jNum na i j n ++ [numJ na i j n] := by simp [jNum, List.range_succ]
theorem jNum_get {na i j : Int} {n c : Nat} (h : c < n) : (jNum na i j n)[c]? = some (numJ na i j c) := by simp [jNum, h]
end Go.Proofs.Ytngpeehjjcgmmaa
