/- The reference's words of so many folds and their ranks; the words of a rank, the program's and the reference's. No condition but sizes. -/
import Derived.Test.YtfhogdbhfbnocaaWordC
namespace Go.Proofs.Ytfhogdbhfbnocaa
open Go.RowKit

/-- an empty slice without room, or a row of the call's own -/
def OwnS0 (w : World) (B : Nat) (v : Value) (xs : List Tx) : Prop := (xs = [] ∧ ∃ ad, v = .slice (some ad) 0 0) ∨ OwnS w B v xs
theorem OwnS0.below {w w' : World} {B : Nat} {v : Value} {xs : List Tx} (h : OwnS0 w B v xs) (hb : Below w.heap.size w w') : OwnS0 w' B v xs := by
  rcases h with h | h
  · exact Or.inl h
  · exact Or.inr (own_belowS h hb)
theorem run_appS0 (W : World) (B : Nat) (ty : TypeId) (v : Value) (xs ys : List Tx) (A : Option Addr) (c : Nat) (hown : OwnS0 W B v xs) (hr : Strs W A ys) (h0 : ys ≠ []) (hB : B ≤ W.heap.size) (hn : xs.length + ys.length ≤ 1000000000000) :
    ∃ v' w', (Builtin.append_ #[35, 35] ty #[v, .slice A ys.length c]).run Try.prog W = .ok v' w' ∧ OwnS w' B v' (xs ++ ys) ∧ Below B W w' := by
  rcases hown with ⟨rfl, ad, rfl⟩ | hown
  · obtain ⟨i0, hi, hz0, hz1, hz2⟩ := info_parts Try.infoStr
    obtain ⟨b, off, rfl, _, hc⟩ := hr h0
    have hl : 0 < ys.length := List.length_pos_iff.2 h0
    simp only [List.length_nil, Nat.zero_add] at hn
    obtain ⟨v', w', hrun, hown, hgr⟩ := run_append_arg_grows (P := Try.prog) W 35 ty 9 i0 (.string ByteArray.empty) 1 16 Try.underlying35 hi hz0 hz1 hz2 rfl (by decide) ad 0 0 [] rfl (fun j u hj => by simp at hj)
      ⟨b, off, none⟩ ys.length c (ys.map encStr) (by simp) (by
        intro j u hu
        rw [List.getElem?_map] at hu
        cases hy : ys[j]? with
        | none => simp only [hy, Option.map_none, reduceCtorEq] at hu
        | some y =>
          simp only [hy, Option.map_some, Option.some.injEq] at hu
          rw [← hu, Addr.add_lit]
          exact hc j y hy) (by omega) (by unfold maxLen; omega) (by omega)
    have ho : OwnS w' W.heap.size v' ys := by simpa [OwnS] using hown
    exact ⟨v', w', hrun, own_lowS ho (fun g hg => Nat.le_trans hB (World.ownsRow.lt ho g hg).1), ((Below.refl _ _).grown hgr (Nat.le_refl _) (fun k hk => by cases hk)).mono hB⟩
  · obtain ⟨v', w', h1, h2, _, h4⟩ := run_appS W B ty v xs ys A c hown hr hB hn
    exact ⟨v', w', h1, h2, h4⟩
theorem step_appS0 {ops : Array Oper} {o : Oper} {a : Act} {W : World} {K : Act → World → Prop} {Q : Exit → Act → World → Prop} {E : Prop} (hgd : o.guard = none) (s x : Operand)
    (ho : o.op = .call { callee := .builtin .append, args := #[s, x], argTypes := #[35, 35] })
    (B : Nat) (v : Value) (xs ys : List Tx) (A : Option Addr) (c : Nat) (hs : a.eval s = v) (m : Nat) (hm : ys.length = m) (hx : a.eval x = .slice A m c) (hown : OwnS0 W B v xs) (hr : Strs W A ys) (h0 : ys ≠ []) (hB : B ≤ W.heap.size)
    (hn : xs.length + ys.length ≤ 1000000000000)
    (h : ∀ v' w', OwnS w' B v' (xs ++ ys) → Below B W w' → K (a.put o.dst v') w') :
    if Region.wanted o (yielded ops a.tmps) = true then Oper.wp Try.prog o a W K Q else E := by
  have hw : Region.wanted o (yielded ops a.tmps) = true := by simp [Region.wanted, hgd]
  rw [if_pos hw]
  subst hm
  obtain ⟨v', w', hrun, h2, h4⟩ := run_appS0 W B o.type v xs ys A c hown hr h0 hB hn
  unfold Oper.wp execOp
  simp only [ho, resolve, invoke, builtin, Sem.run_bind, Sem.run_pure, Result.andThen_ok, List.map_toArray, List.map_cons, List.map_nil, hs, hx, hrun]
  exact h v' w' h2 h4
def stepS (w : Tx) : List Tx := [w ++ 77 :: othL w, w ++ 86 :: othL w]
theorem wlS_succ (n : Nat) : wlS (n + 1) = (wlS n).flatMap stepS := rfl
theorem stepS_take {L : List Tx} {k : Nat} (hk : k < L.length) : (L.take (k + 1)).flatMap stepS = (L.take k).flatMap stepS ++ [L[k] ++ 77 :: othL L[k], L[k] ++ 86 :: othL L[k]] := by
  rw [List.take_succ_eq_append_getElem hk, List.flatMap_append]
  simp [stepS]
theorem flatS_len (L : List Tx) : (L.flatMap stepS).length = 2 * L.length := by
  induction L with
  | nil => rfl
  | cons x l ih => rw [List.flatMap_cons, List.length_append, ih]; simp [stepS]; omega
theorem wlS_small {n : Nat} (hn : n ≤ 6) : (wlS n).length ≤ 64 := by
  rw [wlS_len]
  exact Nat.le_trans (Nat.pow_le_pow_right (by omega) hn) (by decide)
theorem wlS_short {n : Nat} (hn : n ≤ 6) {x : Tx} (h : x ∈ wlS n) : x.length ≤ 63 := wlI_short hn ((wl_perm n).mem_iff.2 h)
set_option maxHeartbeats 2000000 in
set_option maxRecDepth 100000 in
theorem spec_l5All (n : Nat) (w : World) (hn : n ≤ 6) :
    Calls Try.prog 18 #[.int .i64 n] w fun e w' => ∃ v, e = .returned v ∧ OwnS w' w.heap.size v (wlS n) ∧ Below w.heap.size w w' := by
  induction n generalizing w with
  | zero =>
    go_enter Try.func18, Try.ntmps18
    go_wp2_with fail
    go_ret
    exact ⟨_, rfl, World.ownsRow_lit w #[.string { data := #[] }] 1 (Nat.le_refl _) (by unfold maxLen; omega) rfl, (Below.refl _ _).alloc (Nat.le_refl _) _⟩
  | succ n ih =>
    have d0 : (((n + 1 : Nat) : Int) == 0) = false := by rw [beq_eq_false_iff_ne]; omega
    have kw : IntKind.i64.wrap (((n + 1 : Nat) : Int) - 1) = (n : Int) := by rw [IntWalk.i64_in _ (by omega)]; omega
    obtain ⟨w1, hw1⟩ : ∃ w1, w1 = w.alloc (.cells #[] 9) := ⟨_, rfl⟩
    have HB1 : Hid (Below w.heap.size w w1) := by show Below _ _ _; rw [hw1]; exact (Below.refl _ _).alloc (Nat.le_refl _) _
    have HW1 := Lib.hid hw1
    have HIH := Lib.hid (ih w1 (by omega))
    clear hw1 ih
    obtain ⟨z, hz⟩ : ∃ z : Int, z = ((n + 1 : Nat) : Int) := ⟨_, rfl⟩
    rw [← hz] at d0 kw ⊢
    have HZ := Lib.hid hz
    clear hz
    go_enter Try.func18, Try.ntmps18
    go_wp2_with fail
    rw [← HW1.out]
    refine HIH.out.mono ?_
    rintro e w2 ⟨v2, rfl, hown2, hb2⟩
    obtain ⟨A, c, rfl, hS, _, _⟩ := hown2.form
    obtain ⟨L, hL⟩ : ∃ L, L = wlS n := ⟨_, rfl⟩
    have hll : L.length ≤ 64 := by rw [hL]; exact wlS_small (by omega)
    have hl1 : 1 ≤ L.length := by rw [hL, wlS_len]; exact Nat.two_pow_pos n
    have hls : ∀ x ∈ L, x.length ≤ 63 := fun x hx => wlS_short (n := n) (by omega) (by rw [← hL]; exact hx)
    rw [← hL] at hS ⊢
    have HL := Lib.hid hL
    have HLs := Lib.hid hls
    have HS := Lib.hid hS
    have HB2 := Lib.hid (below_from HB1.out hb2 HB1.out.size)
    have HO2 : Hid (OwnS0 w2 w2.heap.size (.slice (some ⟨w.heap.size, 0, none⟩) 0 0) ((L.take 0).flatMap stepS)) := Or.inl ⟨rfl, _, rfl⟩
    have HR2 : Hid (Below w2.heap.size w2 w2) := Below.refl _ _
    clear hL hls hS hown2 hb2 HB1 HW1 HIH
    go_wp2_with fail
    go_loopg [3, 5] (L.length + 1) (fun gg s3 s5 wr => ∃ (k : Nat), k ≤ L.length ∧ s5 = .int .i64 k ∧ L.length - k < gg ∧ Hid (Below w2.heap.size w2 wr) ∧ Hid (OwnS0 wr w2.heap.size s3 ((L.take k).flatMap stepS)))
    case atStart => exact ⟨0, Nat.zero_le _, rfl, by omega, HR2, HO2⟩
    case round =>
      clear HR2 HO2
      obtain ⟨k, hk, rfl, hg, HBs, HOs⟩ := hrel
      cases gk with
      | zero => omega
      | succ g2 =>
      by_cases hkl : k < L.length
      · obtain ⟨b, off, rfl, hb, hc⟩ := HS.out (by intro e; rw [e] at hkl; simp at hkl)
        have r0 := hc k L[k] (List.getElem?_eq_getElem hkl)
        have r1 := (HBs.out.cell (p := ⟨b, off + k, none⟩) hb).trans r0
        have hb0 : b < w2.heap.size := hb
        have hxl := HLs.out L[k] (List.getElem_mem hkl)
        obtain ⟨x, hx⟩ : ∃ x, x = L[k] := ⟨_, rfl⟩
        have hst := stepS_take hkl
        rw [← hx] at r0 r1 hxl hst
        have k1 : (k : Int) < (L.length : Int) := by omega
        have k0 : (0 : Int) ≤ (k : Int) := by omega
        obtain ⟨X, hX⟩ : ∃ X : ByteArray, X = bts x := ⟨_, rfl⟩
        obtain ⟨O, hO⟩ : ∃ O : ByteArray, O = bts (othL x) := ⟨_, rfl⟩
        have hXs : X.size = x.length := by rw [hX]; show (List.toArray x).size = _; simp
        have hOs : O.size = x.length := by rw [hO]; show (List.toArray _).size = _; simp [othL_len]
        have r2 : wr.cell? ⟨b, off + k, none⟩ = some (.string X) := by rw [hX]; exact r1
        have a1 : ∀ W, (Op.stringOp .add X (ByteArray.mk #[77])).run Try.prog W = .ok (.string (X ++ ByteArray.mk #[77])) W := fun W => run_string_add_sum W _ _ (by show X.size + 1 ≤ _; omega)
        have a2 : ∀ W, (Op.stringOp .add X (ByteArray.mk #[86])).run Try.prog W = .ok (.string (X ++ ByteArray.mk #[86])) W := fun W => run_string_add_sum W _ _ (by show X.size + 1 ≤ _; omega)
        have a3 : ∀ W, (Op.stringOp .add (X ++ ByteArray.mk #[77]) O).run Try.prog W = .ok (.string (X ++ ByteArray.mk #[77] ++ O)) W := fun W => run_string_add_sum W _ _ (by rw [ByteArray.size_append]; show X.size + 1 + O.size ≤ _; omega)
        have a4 : ∀ W, (Op.stringOp .add (X ++ ByteArray.mk #[86]) O).run Try.prog W = .ok (.string (X ++ ByteArray.mk #[86] ++ O)) W := fun W => run_string_add_sum W _ _ (by rw [ByteArray.size_append]; show X.size + 1 + O.size ≤ _; omega)
        have e1 : Value.string (X ++ ByteArray.mk #[77] ++ O) = encStr (x ++ 77 :: othL x) := by
          rw [hX, hO]
          show Value.string (bts x ++ bts [77] ++ bts (othL x)) = Value.string (bts (x ++ 77 :: othL x))
          rw [ByteArray.mk_append_mk, ByteArray.mk_append_mk]; simp
        have e2 : Value.string (X ++ ByteArray.mk #[86] ++ O) = encStr (x ++ 86 :: othL x) := by
          rw [hX, hO]
          show Value.string (bts x ++ bts [86] ++ bts (othL x)) = Value.string (bts (x ++ 86 :: othL x))
          rw [ByteArray.mk_append_mk, ByteArray.mk_append_mk]; simp
        have hcl : ∀ W, Calls Try.prog 31 #[.string X] W fun e w' => e = .returned (.string O) ∧ W = w' := fun W => by
          have := spec_l5Other X W (by omega)
          rw [hO]
          rw [hX] at this ⊢
          exact this
        have hln : ((L.take k).flatMap stepS).length ≤ 128 := by rw [flatS_len, List.length_take]; omega
        have hpair : ∀ W : World, Strs (W.alloc (.cells #[.string (X ++ ByteArray.mk #[77] ++ O), .string (X ++ ByteArray.mk #[86] ++ O)] 9)) (some ⟨W.heap.size, 0, none⟩) [x ++ 77 :: othL x, x ++ 86 :: othL x] := fun W => by
          rw [e1, e2]; exact ownS_pair W _ _
        have hoa : ∀ W : World, Below wr.heap.size wr W → OwnS0 W w2.heap.size _ ((L.take k).flatMap stepS) := fun W hW => HOs.out.below hW
        have HCL := Lib.hid hcl
        have HPR := Lib.hid hpair
        have HST := Lib.hid hst
        have hzz : w2.heap.size ≤ wr.heap.size := HBs.out.size
        clear hc hst hx hX hO hXs hOs r0 r1 e1 e2 hcl hpair hb
        go_wp2_with fail
        go_region_held3 (fun W => W.cell? ⟨b, off + k, none⟩ = some (.string X))
          (first | exact r2 | exact (hbA.cell (p := ⟨b, off + k, none⟩) hb0).trans r2 | exact (((below_drewN (Below.refl w2.heap.size wr) 1).alloc hzz _).cell (p := ⟨b, off + k, none⟩) hb0).trans r2)
          (first
            | (go_simp; go_at_call 31; refine (HCL.out _).mono ?_; rintro e _ ⟨rfl, rfl⟩)
            | (refine step_appS0 (by rfl) _ _ (by rfl) w2.heap.size _ ((L.take k).flatMap stepS) [x ++ 77 :: othL x, x ++ 86 :: othL x] _ _ (by rfl) 2 rfl (by rfl) (HOs.out.below ((below_drewN (Below.refl _ _) 1).alloc (Nat.le_refl _) _)) (HPR.out _) (by simp) (Nat.le_trans hzz (by simp)) (by show _ + 2 ≤ _; omega) ?_; intro v7 w7 hown7 hb7; have hbA : Below w2.heap.size wr w7 := ((below_drewN (Below.refl _ _) 1).alloc hzz _).trans hb7))
        all_goals
          rw [← HST.out] at hown7
          have HO7 : Hid (OwnS0 w7 w2.heap.size v7 ((L.take (k + 1)).flatMap stepS)) := Or.inr hown7
          have HB7 : Hid (Below w2.heap.size w2 w7) := HBs.out.trans hbA
          clear hown7 hb7 hbA HBs HOs
          go_wp2_with fail
          go_roundg g2
          case measure => omega
          case rel => exact ⟨k + 1, by omega, by go_num, by omega, HB7, HO7⟩
      · obtain rfl : k = L.length := by omega
        have h1 := HOs.out
        rw [List.take_length] at h1
        have h2 : L.flatMap stepS = wlS (n + 1) := by rw [wlS_succ, HL.out]
        rcases h1 with ⟨h0, _⟩ | h1
        · have := flatS_len L
          rw [h0] at this
          simp at this
          omega
        · rw [h2] at h1
          have HO3 := Lib.hid (own_lowS (B' := w.heap.size) h1 fun g hg => Nat.le_trans HB2.out.size (World.ownsRow.lt h1 g hg).1)
          have HB3 := Lib.hid (HB2.out.trans (HBs.out.mono HB2.out.size))
          clear h1 h2 HBs HOs
          go_wp2_with fail
          go_ret
          exact ⟨_, rfl, HO3.out, HB3.out⟩
end Go.Proofs.Ytfhogdbhfbnocaa
