/- Stamps: the program's iterator over the possible stacks. No condition but sizes. Stamps: how many stacks there are, the program's. No condition but sizes. -/
import Derived.Test.YtkdlipbegdiaaaaGreatDoorEzBP12
import Derived.Test.YtkdlipbegdiaaaaGreatDoorEzBP28
import Derived.Test.YtkdlipbegdiaaaaGreatDoorEzBP25
import Derived.Shelf.Abstract
import Derived.Shelf.RegionOpen
import Derived.OwnWalkIn
import Derived.TacticsInMore
import Derived.LoopNIn
import Derived.LoopIn
import Derived.RangeFuncCalls
import Derived.Sort.LoopGhostIn
namespace Go.Proofs.YtkdlipbegdiaaaaGreatDoor
open Go.RowKit Go.Shelf
attribute [local go_sem] Oper.semAt_some
theorem ints_one (w : World) (z : Int) : Ints (w.alloc (.cells #[.int .i64 z] 3)) (some ⟨w.heap.size, 0, none⟩) [z] := Ints.of_own (own_one w z (Nat.le_refl _))
theorem bodyPostM_none {F : Fence} {n : Nat} {P : Program} {fn : Func} {R : Ending → World → Prop} {a : Act} {w : World} {v : Value} (hd : a.defers = []) (hr : (results fn a.tmps).run P w = .ok v w) (h : R (.returned v) w) : bodyPostM F n P fn R .ret a w := by
  show LeavesInM F n P fn a.tmps R a.defers .returning w
  rw [hd]
  exact ⟨v, hr, h⟩
set_option maxHeartbeats 400000 in
theorem impl_stacksOf (n : Int) (w : World) :
    Calls Tryz.prog 29 #[.int .i64 n] w fun e w' => e = .returned (.func (.func 52) #[] #[ptr w.heap.size]) ∧ w' = w.alloc (.cells #[.int .i64 n] 3) := by
  go_enter Tryz.func29, Tryz.ntmps29
  go_wp2_with fail
  go_ret
  exact ⟨rfl, rfl⟩
set_option maxHeartbeats 1000000 in
set_option maxRecDepth 100000 in
theorem impl_iter1 (box : Nat) : GivesL Fence.wide Tryz.prog 52 #[ptr box] (stkP 1) (fun W => W.cell? ⟨box, 0, none⟩ = some (.int .i64 ((1 : Nat) : Int))) := by
  intro m l J W hC hst hsz hR h0
  have hb1 := (Below.refl W.heap.size W).alloc (Nat.le_refl _) (.cells #[.func (.yield l) #[] #[]] 62)
  have hb2 := hb1.alloc hb1.size (.cells #[.int .i64 0] 3)
  have c0 : W.cell? ⟨box, 0, none⟩ = some (.int .i64 1) := hC 0 W h0
  have hbox : box < W.heap.size := World.block_lt_of_cell? _ _ c0
  have c1 : (W.alloc (.cells #[.func (.yield l) #[] #[]] 62)).cell? ⟨box, 0, none⟩ = some (.int .i64 1) := (hb1.cell (p := ⟨box, 0, none⟩) hbox).trans c0
  obtain ⟨fn, tmps, assign, body, hy, hRR⟩ := hR (m - 1) 0 [0] _ (some ⟨W.heap.size + 1, 0, none⟩) 1 rfl (hst 0 W _ h0 hb2) (by
    have := ints_one (W.alloc (.cells #[.func (.yield l) #[] #[]] 62)) 0
    simpa using this) (fun a e => by cases e; show W.heap.size ≤ W.heap.size + 1; omega) (by simp) (by unfold maxLen; omega)
  refine callsIn_of_wp_marks Tryz.func52 rfl trivial ?_ rfl
  simp only [Tryz.ntmps52, List.size_toArray, List.length_cons, List.length_nil, Nat.reduceAdd, Nat.reduceSub, Array.replicate_succ, Array.replicate_zero, List.push_toArray, List.append_toArray, List.nil_append, List.cons_append]
  have hy2 : (Instr.yield l #[Value.slice (some ⟨W.heap.size + 1, 0, none⟩) 1 1]).run Tryz.prog ((W.alloc (.cells #[.func (.yield l) #[] #[]] 62)).alloc (.cells #[.int .i64 0] 3)) = _ := hy
  clear hy
  gi_wp2
  refine ⟨(fun h => by cases h), ?_⟩
  refine hRR.mono ?_
  rintro e X' ⟨rfl, hj, _⟩
  gi_wp2
  refine bodyPostM_none rfl (results_none rfl _ _ _) ?_
  exact ⟨⟨_, rfl⟩, hj⟩
/-- how many stacks came out of the first k smaller ones -/
def cumN (n k : Nat) : Nat := (((stkP (n + 1)).take k).flatMap fun L => insTo L (n + 1) (n + 2)).length
theorem cumN_succ {n k : Nat} {L : List Int} (h : (stkP (n + 1))[k]? = some L) : cumN n (k + 1) = cumN n k + (insTo L (n + 1) (n + 2)).length := by
  obtain ⟨hk, he⟩ := List.getElem?_eq_some_iff.1 h
  unfold cumN
  rw [List.take_succ_eq_append_getElem hk, List.flatMap_append, List.length_append, he]; simp
theorem cumN_all (n : Nat) : cumN n (stkP (n + 1)).length = (stkP (n + 2)).length := by
  unfold cumN
  rw [List.take_length]; rfl
theorem insTo_pre (L : List Int) (n : Nat) {j m : Nat} (h : j ≤ m) : ∃ r, insTo L n m = insTo L n j ++ r := by
  induction m with
  | zero => obtain rfl : j = 0 := by omega
            exact ⟨[], by simp⟩
  | succ m ih =>
    by_cases e : j = m + 1
    · subst e; exact ⟨[], by simp⟩
    · obtain ⟨r, hr⟩ := ih (by omega)
      rw [insTo_succ, hr, List.append_assoc]
      exact ⟨_, rfl⟩
theorem stk_get {n k j : Nat} {L : List Int} (h : (stkP (n + 1))[k]? = some L) (hj : j < n + 2) (hp : posI (insAt L ((n + 1 : Nat) : Int) j) = true) :
    (stkP (n + 2))[cumN n k + (insTo L (n + 1) j).length]? = some (insAt L ((n + 1 : Nat) : Int) j) := by
  obtain ⟨hk, he⟩ := List.getElem?_eq_some_iff.1 h
  have e1 : stkP (n + 1) = (stkP (n + 1)).take k ++ (L :: (stkP (n + 1)).drop (k + 1)) := by
    rw [← he, ← List.drop_eq_getElem_cons hk, List.take_append_drop]
  have e2 : stkP (n + 2) = ((stkP (n + 1)).take k).flatMap (fun L => insTo L (n + 1) (n + 2)) ++ (insTo L (n + 1) (n + 2) ++ ((stkP (n + 1)).drop (k + 1)).flatMap fun L => insTo L (n + 1) (n + 2)) := by
    show (stkP (n + 1)).flatMap _ = _
    conv => lhs; rw [e1]
    rw [List.flatMap_append, List.flatMap_cons]
  obtain ⟨r, hr⟩ := insTo_pre L (n + 1) (show j + 1 ≤ n + 2 by omega)
  rw [insTo_succ L (n + 1) j, if_pos hp] at hr
  rw [e2, List.getElem?_append_right (by unfold cumN; omega), hr]
  have : cumN n k + (insTo L (n + 1) j).length - (((stkP (n + 1)).take k).flatMap fun L => insTo L (n + 1) (n + 2)).length = (insTo L (n + 1) j).length := by unfold cumN; omega
  rw [this, List.append_assoc, List.append_assoc, List.getElem?_append_right (Nat.le_refl _), Nat.sub_self]
  rfl
/-- append of integers, in a fence -/
theorem wpIn_app {F : Fence} {n : Nat} {ops : Array Oper} {rest : List Oper} {o : Oper} {a : Act} {Q : Exit → Act → World → Prop} {W : World} (hgd : o.guard = none) (s x : Operand)
    (ho : o.op = .call { callee := .builtin .append, args := #[s, x], argTypes := #[23, 23] })
    (B : Nat) (v : Value) (xs ys : List Int) (b off m c : Nat) (hs : a.eval s = v) (hx : a.eval x = .slice (some ⟨b, off, none⟩) m c) (hown : Own W B v xs) (hy : Ints W (some ⟨b, off, none⟩) ys) (hm : ys.length = m) (hB : B ≤ W.heap.size) (hn : xs.length + m ≤ 1000000)
    (h : ∀ v' w', Own w' B v' (xs ++ ys) → W.grownBy w' v.ownBlock → Below B W w' → wpListIn F n Tryz.prog ops Q rest (a.put o.dst v') w') :
    wpListIn F n Tryz.prog ops Q (o :: rest) a W := by
  obtain ⟨i0, hi, hz0, hz1, hz2⟩ := info_parts Tryz.infoInt
  subst hm
  refine wpListIn_append_own (P := Tryz.prog) W hgd s x 23 ho B 3 i0 (.int .i64 0) 1 8 Tryz.underlying23 hi hz0 hz1 hz2 rfl (by decide) v _ _ hs hown ⟨b, off, none⟩ ys.length c (ys.map (Value.int .i64)) hx (by simp) (fun j u hj => ?_) (fun u hu => ?_) (by unfold maxLen; omega) (by omega) hB ?_
  · rw [List.getElem?_map] at hj
    cases hq : ys[j]? with
    | none => rw [hq] at hj; cases hj
    | some z =>
      rw [hq] at hj
      cases hj
      obtain ⟨b', off', e, _, hc⟩ := hy (fun e => by rw [e] at hq; simp at hq)
      cases e
      rw [Addr.add_lit]
      exact hc j z hq
  · obtain ⟨z, _, rfl⟩ := List.mem_map.1 hu
    rfl
  · intro v' w' h1 h2 _
    rw [← List.map_append, ← List.length_append] at h1
    exact h v' w' h1 h2 ((Below.refl _ _).grown h2 hB fun k hk => (hown.lt k hk).1)
/-- an empty row with room, in a fence -/
theorem wpIn_make0 {F : Fence} {n : Nat} {ops : Array Oper} {rest : List Oper} {o : Oper} {a : Act} {Q : Exit → Act → World → Prop} {W : World} (hgd : o.guard = none) (l c : Operand)
    (ho : o.op = .makeSlice 23 l c) (m : Nat) (hl : a.eval l = .int .i64 0) (hc : a.eval c = .int .i64 (m : Int)) (hm : m ≤ 1000000)
    (h : ∀ v' w', Own w' W.heap.size v' [] → Below W.heap.size W w' → wpListIn F n Tryz.prog ops Q rest (a.put o.dst v') w') :
    wpListIn F n Tryz.prog ops Q (o :: rest) a W := by
  obtain ⟨i0, hi, hz0, hz1, hz2⟩ := info_parts Tryz.infoInt
  exact wpListIn_make_own (P := Tryz.prog) W hgd l c 23 ho W.heap.size 3 i0 (.int .i64 0) 1 Tryz.underlying23 hi hz0 hz1 .i64 .i64 (m : Int) m hl hc rfl (by rw [hz2]; omega) (by unfold maxLen; omega) (Nat.le_refl _)
    fun w' h1 h2 => h _ w' h1 ((Below.refl _ _).grown h2 (Nat.le_refl _) (fun _ h => by cases h))
theorem ints_take {w : World} {A : Option Addr} {L : List Int} (h : Ints w A L) (j : Nat) : Ints w A (L.take j) := by
  intro hne
  obtain ⟨b, off, e, hb, hc⟩ := h (fun e => hne (by rw [e]; simp))
  refine ⟨b, off, e, hb, fun k x hx => hc k x ?_⟩
  rw [List.getElem?_take] at hx
  split at hx
  · exact hx
  · cases hx
theorem ints_drop {w : World} {b off : Nat} {L : List Int} (h : Ints w (some ⟨b, off, none⟩) L) (j : Nat) : Ints w (some ⟨b, off + j, none⟩) (L.drop j) := by
  intro hne
  obtain ⟨b', off', e, hb, hc⟩ := h (fun e => hne (by rw [e]; simp))
  cases e
  refine ⟨b, off + j, rfl, hb, fun k x hx => ?_⟩
  rw [List.getElem?_drop] at hx
  have := hc (j + k) x hx
  rwa [← Nat.add_assoc] at this
set_option maxHeartbeats 8000000 in
set_option maxRecDepth 100000 in
theorem impl_iterS (n : Nat) (hn : n + 2 ≤ 7) (ih : ∀ box, GivesL Fence.wide Tryz.prog 52 #[ptr box] (stkP (n + 1)) (fun W => W.cell? ⟨box, 0, none⟩ = some (.int .i64 ((n + 1 : Nat) : Int)))) (box : Nat) :
    GivesL Fence.wide Tryz.prog 52 #[ptr box] (stkP (n + 2)) (fun W => W.cell? ⟨box, 0, none⟩ = some (.int .i64 ((n + 2 : Nat) : Int))) := by
  intro m l J W hC hst hsz hR h0
  obtain ⟨N, hN⟩ : ∃ N : Nat, N = n + 2 := ⟨_, rfl⟩
  rw [← hN] at hC
  have HC := Lib.hid hC
  have HST := Lib.hid hst
  have HSZ := Lib.hid hsz
  have HR := Lib.hid hR
  have H0 := Lib.hid h0
  have HN := Lib.hid hN
  have n7 : N ≤ 7 := by omega
  have n2 : 2 ≤ N := by omega
  have hb1 := (Below.refl W.heap.size W).alloc (Nat.le_refl _) (.cells #[.func (.yield l) #[] #[]] 62)
  have c0 : W.cell? ⟨box, 0, none⟩ = some (.int .i64 N) := hC 0 W h0
  have hbox : box < W.heap.size := World.block_lt_of_cell? _ _ c0
  have c1 : (W.alloc (.cells #[.func (.yield l) #[] #[]] 62)).cell? ⟨box, 0, none⟩ = some (.int .i64 N) := (hb1.cell (p := ⟨box, 0, none⟩) hbox).trans c0
  have d0 : ¬ ((N : Int) ≤ 1) := by omega
  have kw : IntKind.i64.wrap ((N : Int) - 1) = ((N - 1 : Nat) : Int) := by rw [IntWalk.i64_in _ (by omega)]; omega
  have hK0 := Blk.new W 62 #[.func (.yield l) #[] #[]]
  obtain ⟨Wa, hWa⟩ : ∃ Wa, Wa = W.alloc (.cells #[.func (.yield l) #[] #[]] 62) := ⟨_, rfl⟩
  have hza : Wa.heap.size = W.heap.size + 1 := by rw [hWa]; simp
  rw [← hWa] at hb1 c1 hK0
  clear hC hst hsz hR h0 hN
  refine callsIn_of_wp_marks Tryz.func52 rfl trivial ?_ rfl
  simp only [Tryz.ntmps52, List.size_toArray, List.length_cons, List.length_nil, Nat.reduceAdd, Nat.reduceSub, Array.replicate_succ, Array.replicate_zero, List.push_toArray, List.append_toArray, List.nil_append, List.cons_append]
  gi_wp2
  rw [← hWa]
  gi_wp2
  refine ⟨trivial, (fun h => by cases h), (callsIn_wide.2 (impl_stacksOf _ Wa)).mono ?_⟩
  rintro e w' ⟨rfl, hw'⟩
  have hzb : w'.heap.size = W.heap.size + 2 := by rw [hw']; simp [hza]
  have hab : Below Wa.heap.size Wa w' := by rw [hw']; exact (Below.refl _ _).alloc (Nat.le_refl _) _
  have HBW : Hid (Below W.heap.size W w') := hb1.trans (hab.mono (by omega))
  have HK0 := Lib.hid (hK0.below hab hK0.lt)
  have hN1 : N - 1 = n + 1 := by rw [HN.out]; omega
  have HK1 : Hid (Blk w' (W.heap.size + 1) 3 #[.int .i64 ((n + 1 : Nat) : Int)]) := by
    have := Blk.new Wa 3 #[.int .i64 ((N - 1 : Nat) : Int)]
    rw [← hw', hza, hN1] at this
    exact this
  have HN1 := Lib.hid hN1
  rw [hza]
  obtain ⟨Wb, hWb⟩ : ∃ Wb, Wb = w' := ⟨_, rfl⟩
  rw [← hWb] at hzb HBW HK0 HK1 ⊢
  clear hWa hw' hab hK0 c1 hb1 hza hWb hN1
  gi_wp2
  refine wp_rangeL rfl rfl (gf := 52) (lb := #[ptr (W.heap.size + 1)]) rfl trivial (enters_of Tryz.func52 (by kernel_rfl) rfl) (ih (W.heap.size + 1)) rfl
    (fun k X => J (cumN n k) X ∧ Blk X W.heap.size 62 #[.func (.yield l) #[] #[]] ∧ Blk X (W.heap.size + 1) 3 #[.int .i64 ((n + 1 : Nat) : Int)])
    (fun k X h => h.2.2.cell 0)
    (fun k X Y h hb => ⟨HST.out _ X Y h.1 (hb.mono (by omega)), by
      have := hb.block W.heap.size (by omega)
      show Y.heap[_]? = _
      rw [this]; exact h.2.1, by
      have := hb.block (W.heap.size + 1) (by omega)
      show Y.heap[_]? = _
      rw [this]; exact h.2.2⟩)
    ⟨HST.out _ W Wb H0.out HBW.out, HK0.out, HK1.out⟩
    (fun A len cap => { tmps := #[.func (.yield l) #[] #[], ptr box, ptr W.heap.size, .slice A len cap, undef, undef, .int .i64 N, .bool false, undef, undef, undef, .int .i64 N, .int .i64 ((N - 1 : Nat) : Int), .func (.func 52) #[] #[ptr (W.heap.size + 1)], .slice A len cap, undef, undef, undef, undef, undef, undef, undef, undef, undef, undef, undef, undef, undef, undef, undef, undef, undef, undef, undef, undef, undef, undef, undef, undef, undef, undef, undef, undef, undef, undef], defers := [] }) ?assign ?body ?done
  case assign =>
    intro l2 m2 A len cap X K hK
    gi_wp2
    exact hK
  case done =>
    rintro D X hD ⟨hj, _, _⟩ hK
    rw [cumN_all] at hj
    have hj2 : J (stkP (n + 2)).length (X.putObj D (.deferred none)) := HST.out _ X _ hj (below_put (by omega))
    gi_wp2
    refine ⟨by simp, .inl ⟨_, _, rfl, run_takeDeferred hK, ?_⟩⟩
    exact ⟨_, results_none rfl _ _ _, ⟨_, rfl⟩, hj2⟩
  case body =>
    rintro l2 m2 k L A cap X hz hL ⟨hj, hk0, hk1⟩ hI hA hc hm
    have hLl : L.length = n + 1 := stkP_len (n + 1) (by omega) L (List.mem_of_getElem? hL)
    have HL := Lib.hid hL
    obtain ⟨b, off, rfl, hbX, hcell⟩ := hI (by intro e; rw [e] at hLl; simp at hLl)
    have hbH : W.heap.size + 4 ≤ b := by have := hA _ rfl; simp at this; omega
    have HI : Hid (∀ Y, Kept W.heap.size X Y → Ints Y (some ⟨b, off, none⟩) L) := (fun Y hk _ => ⟨b, off, rfl, Nat.lt_of_lt_of_le hbX hk.1, fun j u hju => (World.cell?_of_block (hk.2 b (by omega) hbX)).trans (hcell j u hju)⟩ : ∀ Y, Kept W.heap.size X Y → Ints Y (some ⟨b, off, none⟩) L)
    have hdd : ∀ q : Nat, ((Fence.wide.inRound l2).depth.isSome = true → 1 ≤ q) := fun q h => by cases h
    have HJ0 : Hid (J (cumN n k + (insTo L (n + 1) 0).length) X) := by
      show J _ _
      exact hj
    have HB0 := Lib.hid hk0
    have HB1 := Lib.hid hk1
    clear hj hk0 hk1 hI hcell hL hA
    gi_wp2
    gi_loopg [4, 5] (N + 1) (fun g s4 s5 wr => ∃ (j : Nat), s5 = s5 ∧ j ≤ N ∧ s4 = .int .i64 j ∧ N - j < g ∧ Hid (J (cumN n k + (insTo L (n + 1) j).length) wr) ∧ Hid (Kept W.heap.size X wr) ∧ Hid (Blk wr W.heap.size 62 #[.func (.yield l) #[] #[]]) ∧ Hid (Blk wr (W.heap.size + 1) 3 #[.int .i64 ((n + 1 : Nat) : Int)]))
    case atStart => exact ⟨0, rfl, by omega, rfl, by omega, HJ0, Kept.refl _ _, HB0, HB1⟩
    case round =>
      clear HJ0 HB0 HB1
      obtain ⟨j, _, hjN, rfl, hg, HJ, HKP, HB0, HB1⟩ := hrel
      cases gk with
      | zero => omega
      | succ gl =>
      have cN : wr.cell? ⟨box, 0, none⟩ = some (.int .i64 N) := HC.out _ wr HJ.out
      by_cases hlt : j < N
      · have k1 : (j : Int) < (N : Int) := by omega
        have k0 : (0 : Int) ≤ (j : Int) := by omega
        have hNN := HN.out
        have j1 : j ≤ n + 1 := by omega
        have j2 : (j : Int) ≤ (cap : Int) := by omega
        have hcn : n + 1 ≤ cap := by omega
        have j3 : (j : Int) ≤ (n : Int) + 1 := by omega
        have j4 : ((N - 1 : Nat) : Int) = ((n + 1 : Nat) : Int) := by omega
        obtain ⟨M, hM⟩ : ∃ M, M = insAt L ((n + 1 : Nat) : Int) j := ⟨_, rfl⟩
        have hMl : M.length = N := by rw [hM, insAt_len, hLl, hNN]
        have HM : Hid ((L.take j ++ [((N - 1 : Nat) : Int)]) ++ L.drop j = M) := by
          show _ = _
          rw [hM, j4]; unfold insAt; simp
        have htl : (L.take j).length = j := by rw [List.length_take]; omega
        have hdl : (L.drop j).length = n + 1 - j := by rw [List.length_drop]; omega
        have HML := Lib.hid hMl
        have HTL := Lib.hid htl
        have HDL := Lib.hid hdl
        have HMM := Lib.hid hM
        have HLL := Lib.hid hLl
        clear hM hMl htl hdl j4 hNN hLl
        by_cases hcj : cap = j
        · subst hcj
          have hj9 : n + 1 - cap = 0 := by omega
          have HDZ : Hid ((L.drop cap).length = 0) := by show _ = _; rw [HDL.out]; exact hj9
          gi_wp2_with (first
          | (gi_at_builtin; refine wpIn_app (W := w3) rfl _ _ rfl wr.heap.size _ (L.take cap ++ [((N - 1 : Nat) : Int)]) (L.drop cap) b off _ _ (by rfl) (by rfl) HO3.out (by have hdz : L.drop cap = [] := List.eq_nil_of_length_eq_zero (by rw [HDL.out]; exact hj9); rw [hdz]; exact Ints.nil _ _) HDZ.out HQ3.out.size (by rw [List.length_append, HTL.out]; simp; omega) ?_; intro v4 w4 ho4 hg4 hb4; have HO4 := Lib.hid ho4; have HQ4 := Lib.hid (HQ3.out.trans hb4); clear ho4 hg4 hb4 HO3 HQ3 HI3)
          | (gi_at_builtin; refine wpIn_app (W := w2.alloc (.cells #[.int .i64 ((N - 1 : Nat) : Int)] 3)) rfl _ _ rfl wr.heap.size _ (L.take cap) [((N - 1 : Nat) : Int)] w2.heap.size 0 1 1 (by rfl) (by rfl) (own_below2' HO2.out ((Below.refl _ _).alloc (Nat.le_refl _) _)) (ints_one w2 _) rfl (Nat.le_trans HQ2.out.size (by simp)) (by rw [HTL.out]; omega) ?_; intro v3 w3 ho3 hg3 hb3; have HO3 := Lib.hid ho3; have HQ3 := Lib.hid ((HQ2.out.alloc HQ2.out.size (.cells #[.int .i64 ((N - 1 : Nat) : Int)] 3)).trans hb3); have HI3 := Lib.hid (HI.out w3 (HKP.out.trans (Kept.below HQ3.out))); clear ho3 hg3 hb3 HO2 HQ2 cN2)
          | (gi_at_builtin; refine wpIn_app (W := w1) rfl _ _ rfl wr.heap.size _ [] (L.take cap) b off _ _ (by rfl) (by rfl) HO1.out (ints_take HI1.out cap) HTL.out HQ1.out.size (by simp; omega) ?_; intro v2 w2 ho2 hg2 hb2; have HO2 : Hid (Own w2 wr.heap.size v2 (L.take cap)) := (by show Own _ _ _ _; simpa using ho2); have HQ2 := Lib.hid (HQ1.out.trans hb2); have cN2 : w2.cell? ⟨box, 0, none⟩ = some (.int .i64 N) := (HQ2.out.cell (p := ⟨box, 0, none⟩) (World.block_lt_of_cell? _ _ cN)).trans cN; clear ho2 hg2 hb2 HO1 HQ1 HI1)
          | (gi_at_make; refine wpIn_make0 (W := wr) rfl _ _ rfl N (by rfl) (by rfl) (by omega) ?_; intro v1 w1 ho1 hb1; have HO1 := Lib.hid ho1; have HQ1 := Lib.hid hb1; have HI1 := Lib.hid (HI.out w1 (HKP.out.trans (Kept.below hb1))); clear ho1 hb1))
          have ho4 : Own w4 wr.heap.size v4 M := by have := HO4.out; rw [HM.out] at this; exact this
          have hlt4 : ∀ g, v4.ownBlock = some g → wr.heap.size ≤ g := fun g e => (ho4.lt g e).1
          obtain ⟨A4, c4, rfl, hi4, hc4, hm4⟩ := Own.form ho4
          have HA4 : Hid (∀ a, A4 = some a → wr.heap.size ≤ a.block) := (fun a e => hlt4 a.block (by rw [e]; rfl) : ∀ a, A4 = some a → wr.heap.size ≤ a.block)
          have HI4 := Lib.hid hi4
          have HC4 := Lib.hid (And.intro hc4 hm4)
          have HSP := Lib.hid (impl_StampPossible A4 c4 M w4 hi4 (by rw [HML.out]; omega) (by rw [HML.out]; exact n7))
          clear ho4 hlt4 hi4 hc4 hm4 HO4
          refine ⟨trivial, (fun h => by cases h), CallsIn.inRound l2 ((callsIn_wide.2 HSP.out).mono ?_)⟩
          rintro e w5 ⟨rfl, hb5⟩
          have hq5 := HQ4.out.trans (hb5.mono HQ4.out.size)
          have HK5 := Lib.hid (HKP.out.trans (Kept.below hq5))
          have HB05 := Lib.hid (HB0.out.below hq5 HB0.out.lt)
          have HB15 := Lib.hid (HB1.out.below hq5 HB1.out.lt)
          have HJ5 := Lib.hid (HST.out _ wr w5 HJ.out (hq5.mono (HSZ.out _ _ HJ.out)))
          have HI5 := Lib.hid (HI4.out.below hb5)
          clear HI4 hb5 hq5 HSP HQ4
          cases hp : posI M with
          | true =>
            have hget := stk_get HL.out (show cap < n + 2 by have := HN.out; omega) (by rw [← HMM.out]; exact hp)
            rw [← HMM.out] at hget
            have c2 : w5.cell? ⟨W.heap.size, 0, none⟩ = some (.func (.yield l) #[] #[]) := HB05.out.cell 0
            obtain ⟨fn, tmps, assign, body, hy, hRR⟩ := HR.out (m2 - 1) _ M w5 A4 c4 hget HJ5.out HI5.out (fun a e => Nat.le_trans (HSZ.out _ _ HJ.out) (HA4.out a e)) HC4.out.1 HC4.out.2
            have HLs : Hid (cumN n k + (insTo L (n + 1) cap).length + 1 = cumN n k + (insTo L (n + 1) (cap + 1)).length) := by
              show _ = _
              rw [insTo_succ, if_pos (by rw [← HMM.out]; exact hp)]; simp; omega
            clear hp hget
            gi_wp2
            refine ⟨(fun h => by cases h), hRR.mono ?_⟩
            rintro e X6 ⟨rfl, hj6, hk6⟩
            rw [HLs.out] at hj6
            have HJ6 := Lib.hid hj6
            have HK6 := Lib.hid (HK5.out.trans hk6)
            have HB06 : Hid (Blk X6 W.heap.size 62 #[.func (.yield l) #[] #[]]) := (hk6.2 W.heap.size (Nat.le_refl _) HB05.out.lt).trans HB05.out
            have HB16 : Hid (Blk X6 (W.heap.size + 1) 3 #[.int .i64 ((n + 1 : Nat) : Int)]) := (hk6.2 (W.heap.size + 1) (Nat.le_succ _) HB15.out.lt).trans HB15.out
            clear hj6 hk6
            gi_wp2
            go_roundg gl
            case measure => omega
            case rel => exact ⟨cap + 1, trivial, by omega, by go_num, by omega, HJ6.out, HK6.out, HB06.out, HB16.out⟩
          | false =>
            have HLs : Hid (cumN n k + (insTo L (n + 1) cap).length = cumN n k + (insTo L (n + 1) (cap + 1)).length) := by
              show _ = _
              rw [insTo_succ, if_neg (by rw [← HMM.out, hp]; decide)]; simp
            have HJ6 : Hid (J (cumN n k + (insTo L (n + 1) (cap + 1)).length) w5) := by show J _ _; rw [← HLs.out]; exact HJ5.out
            clear hp
            gi_wp2
            refine ⟨fun _ h => (by cases h), ?_⟩
            gi_wp2
            go_roundg gl
            case measure => omega
            case rel => exact ⟨cap + 1, trivial, by omega, by go_num, by omega, HJ6.out, HK5.out, HB05.out, HB15.out⟩
        · gi_wp2_with (first
          | (gi_at_builtin; refine wpIn_app (W := w3) rfl _ _ rfl wr.heap.size _ (L.take j ++ [((N - 1 : Nat) : Int)]) (L.drop j) b (off + j) _ _ (by rfl) (by rfl) HO3.out (ints_drop HI3.out j) HDL.out HQ3.out.size (by rw [List.length_append, HTL.out]; simp; omega) ?_; intro v4 w4 ho4 hg4 hb4; have HO4 := Lib.hid ho4; have HQ4 := Lib.hid (HQ3.out.trans hb4); clear ho4 hg4 hb4 HO3 HQ3 HI3)
          | (gi_at_builtin; refine wpIn_app (W := w2.alloc (.cells #[.int .i64 ((N - 1 : Nat) : Int)] 3)) rfl _ _ rfl wr.heap.size _ (L.take j) [((N - 1 : Nat) : Int)] w2.heap.size 0 1 1 (by rfl) (by rfl) (own_below2' HO2.out ((Below.refl _ _).alloc (Nat.le_refl _) _)) (ints_one w2 _) rfl (Nat.le_trans HQ2.out.size (by simp)) (by rw [HTL.out]; omega) ?_; intro v3 w3 ho3 hg3 hb3; have HO3 := Lib.hid ho3; have HQ3 := Lib.hid ((HQ2.out.alloc HQ2.out.size (.cells #[.int .i64 ((N - 1 : Nat) : Int)] 3)).trans hb3); have HI3 := Lib.hid (HI.out w3 (HKP.out.trans (Kept.below HQ3.out))); clear ho3 hg3 hb3 HO2 HQ2 cN2)
          | (gi_at_builtin; refine wpIn_app (W := w1) rfl _ _ rfl wr.heap.size _ [] (L.take j) b off _ _ (by rfl) (by rfl) HO1.out (ints_take HI1.out j) HTL.out HQ1.out.size (by simp; omega) ?_; intro v2 w2 ho2 hg2 hb2; have HO2 : Hid (Own w2 wr.heap.size v2 (L.take j)) := (by show Own _ _ _ _; simpa using ho2); have HQ2 := Lib.hid (HQ1.out.trans hb2); have cN2 : w2.cell? ⟨box, 0, none⟩ = some (.int .i64 N) := (HQ2.out.cell (p := ⟨box, 0, none⟩) (World.block_lt_of_cell? _ _ cN)).trans cN; clear ho2 hg2 hb2 HO1 HQ1 HI1)
          | (gi_at_make; refine wpIn_make0 (W := wr) rfl _ _ rfl N (by rfl) (by rfl) (by omega) ?_; intro v1 w1 ho1 hb1; have HO1 := Lib.hid ho1; have HQ1 := Lib.hid hb1; have HI1 := Lib.hid (HI.out w1 (HKP.out.trans (Kept.below hb1))); clear ho1 hb1))
          have ho4 : Own w4 wr.heap.size v4 M := by have := HO4.out; rw [HM.out] at this; exact this
          have hlt4 : ∀ g, v4.ownBlock = some g → wr.heap.size ≤ g := fun g e => (ho4.lt g e).1
          obtain ⟨A4, c4, rfl, hi4, hc4, hm4⟩ := Own.form ho4
          have HA4 : Hid (∀ a, A4 = some a → wr.heap.size ≤ a.block) := (fun a e => hlt4 a.block (by rw [e]; rfl) : ∀ a, A4 = some a → wr.heap.size ≤ a.block)
          have HI4 := Lib.hid hi4
          have HC4 := Lib.hid (And.intro hc4 hm4)
          have HSP := Lib.hid (impl_StampPossible A4 c4 M w4 hi4 (by rw [HML.out]; omega) (by rw [HML.out]; exact n7))
          clear ho4 hlt4 hi4 hc4 hm4 HO4
          refine ⟨trivial, (fun h => by cases h), CallsIn.inRound l2 ((callsIn_wide.2 HSP.out).mono ?_)⟩
          rintro e w5 ⟨rfl, hb5⟩
          have hq5 := HQ4.out.trans (hb5.mono HQ4.out.size)
          have HK5 := Lib.hid (HKP.out.trans (Kept.below hq5))
          have HB05 := Lib.hid (HB0.out.below hq5 HB0.out.lt)
          have HB15 := Lib.hid (HB1.out.below hq5 HB1.out.lt)
          have HJ5 := Lib.hid (HST.out _ wr w5 HJ.out (hq5.mono (HSZ.out _ _ HJ.out)))
          have HI5 := Lib.hid (HI4.out.below hb5)
          clear HI4 hb5 hq5 HSP HQ4
          cases hp : posI M with
          | true =>
            have hget := stk_get HL.out (show j < n + 2 by have := HN.out; omega) (by rw [← HMM.out]; exact hp)
            rw [← HMM.out] at hget
            have c2 : w5.cell? ⟨W.heap.size, 0, none⟩ = some (.func (.yield l) #[] #[]) := HB05.out.cell 0
            obtain ⟨fn, tmps, assign, body, hy, hRR⟩ := HR.out (m2 - 1) _ M w5 A4 c4 hget HJ5.out HI5.out (fun a e => Nat.le_trans (HSZ.out _ _ HJ.out) (HA4.out a e)) HC4.out.1 HC4.out.2
            have HLs : Hid (cumN n k + (insTo L (n + 1) j).length + 1 = cumN n k + (insTo L (n + 1) (j + 1)).length) := by
              show _ = _
              rw [insTo_succ, if_pos (by rw [← HMM.out]; exact hp)]; simp; omega
            clear hp hget
            gi_wp2
            refine ⟨(fun h => by cases h), hRR.mono ?_⟩
            rintro e X6 ⟨rfl, hj6, hk6⟩
            rw [HLs.out] at hj6
            have HJ6 := Lib.hid hj6
            have HK6 := Lib.hid (HK5.out.trans hk6)
            have HB06 : Hid (Blk X6 W.heap.size 62 #[.func (.yield l) #[] #[]]) := (hk6.2 W.heap.size (Nat.le_refl _) HB05.out.lt).trans HB05.out
            have HB16 : Hid (Blk X6 (W.heap.size + 1) 3 #[.int .i64 ((n + 1 : Nat) : Int)]) := (hk6.2 (W.heap.size + 1) (Nat.le_succ _) HB15.out.lt).trans HB15.out
            clear hj6 hk6
            gi_wp2
            go_roundg gl
            case measure => omega
            case rel => exact ⟨j + 1, trivial, by omega, by go_num, by omega, HJ6.out, HK6.out, HB06.out, HB16.out⟩
          | false =>
            have HLs : Hid (cumN n k + (insTo L (n + 1) j).length = cumN n k + (insTo L (n + 1) (j + 1)).length) := by
              show _ = _
              rw [insTo_succ, if_neg (by rw [← HMM.out, hp]; decide)]; simp
            have HJ6 : Hid (J (cumN n k + (insTo L (n + 1) (j + 1)).length) w5) := by show J _ _; rw [← HLs.out]; exact HJ5.out
            clear hp
            gi_wp2
            refine ⟨fun _ h => (by cases h), ?_⟩
            gi_wp2
            go_roundg gl
            case measure => omega
            case rel => exact ⟨j + 1, trivial, by omega, by go_num, by omega, HJ6.out, HK5.out, HB05.out, HB15.out⟩
      · obtain rfl : j = N := by omega
        have hj2 := HJ.out
        rw [HN.out, ← cumN_succ HL.out] at hj2
        have HJ2 := Lib.hid hj2
        clear hj2
        gi_wp2
        exact ⟨⟨HJ2.out, HB0.out, HB1.out⟩, HKP.out.mono (by omega)⟩
theorem impl_iter : ∀ n, 1 ≤ n → n ≤ 7 → ∀ box, GivesL Fence.wide Tryz.prog 52 #[ptr box] (stkP n) (fun W => W.cell? ⟨box, 0, none⟩ = some (.int .i64 (n : Int)))
  | 0, h, _ => by omega
  | 1, _, _ => impl_iter1
  | n + 2, _, h => impl_iterS n h (impl_iter (n + 1) (by omega) (by omega))
end Go.Proofs.YtkdlipbegdiaaaaGreatDoor
namespace Go.Proofs.YtkdlipbegdiaaaaGreatDoor
open Go.RowKit Go.Shelf
attribute [local go_sem] Oper.semAt_some
theorem stk_count {n : Nat} (h1 : 1 ≤ n) (h7 : n ≤ 7) : (stkP n).length = stkN n := by
  by_cases h : n < 7
  · exact stkP_count6 n h h1
  · obtain rfl : n = 7 := by omega
    exact stkP_count7
theorem posQ_count {n : Nat} (h1 : 1 ≤ n) (h7 : n ≤ 7) : ((genO n n []).filter posQ).length = stkN n := by
  by_cases h : n < 7
  · exact posQ_count6 n h h1
  · obtain rfl : n = 7 := by omega
    exact posQ_count7
theorem stkN_le (n : Nat) : stkN n ≤ 462 := by
  unfold stkN
  split <;> omega
set_option maxHeartbeats 400000 in
theorem impl_StampMany_no (n : Int) (h : ¬ (1 ≤ n ∧ n ≤ 7)) (w : World) :
    Calls Tryz.prog 13 #[.int .i64 n] w fun e w' => e = .returned (.int .i64 (-1)) ∧ w = w' := by
  have HR := Lib.hid (impl_stampsInRange n w)
  have hb : (decide (1 ≤ n) && decide (n ≤ 7)) = false := by
    cases h1 : (decide (1 ≤ n) && decide (n ≤ 7)) with
    | false => rfl
    | true =>
      simp only [Bool.and_eq_true, decide_eq_true_eq] at h1
      exact absurd h1 h
  rw [hb] at HR
  clear h hb
  go_enter Tryz.func13, Tryz.ntmps13
  go_wp2_with fail
  refine HR.out.mono ?_
  rintro e _ ⟨rfl, rfl⟩
  go_wp2_with fail
  go_ret
  exact ⟨rfl, rfl⟩
set_option maxHeartbeats 1000000 in
set_option maxRecDepth 100000 in
theorem impl_StampMany (n : Nat) (h1 : 1 ≤ n) (h7 : n ≤ 7) (w : World) :
    Calls Tryz.prog 13 #[.int .i64 n] w fun e w' => e = .returned (.int .i64 (stkN n : Nat)) ∧ Below w.heap.size w w' := by
  have HR := Lib.hid (impl_stampsInRange (n : Int) w)
  rw [decide_eq_true (show (1 : Int) ≤ (n : Int) by omega), decide_eq_true (show (n : Int) ≤ 7 by omega)] at HR
  have HI := Lib.hid (impl_iter n h1 h7)
  have HC := Lib.hid (stk_count h1 h7)
  have HL := Lib.hid (stkN_le n)
  clear h1 h7
  obtain ⟨q, _⟩ : ∃ _q : Nat, True := ⟨3, trivial⟩
  refine callsIn_wide (n := q).1 ?_
  refine callsIn_of_wp_marks Tryz.func13 rfl trivial ?_ rfl
  simp only [Tryz.ntmps13, List.size_toArray, List.length_cons, List.length_nil, Nat.reduceAdd, Nat.reduceSub, Array.replicate_succ, Array.replicate_zero, List.push_toArray, List.append_toArray, List.nil_append, List.cons_append]
  gi_wp2
  refine ⟨trivial, (fun h => by cases h), (callsIn_wide.2 HR.out).mono ?_⟩
  rintro e _ ⟨rfl, rfl⟩
  gi_wp2
  have hK0 := Blk.new w 3 #[.int .i64 ((0 : Nat) : Int)]
  have hb0 : Below w.heap.size w (w.alloc (.cells #[.int .i64 0] 3)) := (Below.refl _ _).alloc (Nat.le_refl _) _
  obtain ⟨Wa, hWa⟩ : ∃ Wa, Wa = w.alloc (.cells #[.int .i64 0] 3) := ⟨_, rfl⟩
  have hza : Wa.heap.size = w.heap.size + 1 := by rw [hWa]; simp
  have hKa : Blk Wa w.heap.size 3 #[.int .i64 ((0 : Nat) : Int)] := by rw [hWa]; exact hK0
  rw [← hWa] at hb0
  rw [← hWa]
  clear hWa hK0
  refine ⟨trivial, (fun h => by cases h), (callsIn_wide.2 (impl_stacksOf _ Wa)).mono ?_⟩
  rintro e w' ⟨rfl, hw'⟩
  have hzb : w'.heap.size = w.heap.size + 2 := by rw [hw']; simp [hza]
  have hab : Below Wa.heap.size Wa w' := by rw [hw']; exact (Below.refl _ _).alloc (Nat.le_refl _) _
  have HBW : Hid (Below w.heap.size w w') := hb0.trans (hab.mono (by omega))
  have HK0 := Lib.hid (hKa.below hab hKa.lt)
  have HK1 : Hid (Blk w' (w.heap.size + 1) 3 #[.int .i64 (n : Int)]) := by
    have := Blk.new Wa 3 #[.int .i64 (n : Int)]
    rw [← hw', hza] at this
    exact this
  rw [hza]
  obtain ⟨Wb, hWb⟩ : ∃ Wb, Wb = w' := ⟨_, rfl⟩
  rw [← hWb] at hzb HBW HK0 HK1 ⊢
  clear hw' hab hKa hb0 hza hWb
  gi_wp2
  refine wp_rangeL rfl rfl (gf := 52) (lb := #[ptr (w.heap.size + 1)]) rfl trivial (enters_of Tryz.func52 (by kernel_rfl) rfl) (HI.out (w.heap.size + 1)) rfl
    (fun k X => Blk X w.heap.size 3 #[.int .i64 (k : Int)] ∧ Below w.heap.size w X ∧ Blk X (w.heap.size + 1) 3 #[.int .i64 (n : Int)])
    (fun k X h => h.2.2.cell 0)
    (fun k X Y h hb => ⟨by
      have := hb.block w.heap.size (by omega)
      show Y.heap[_]? = _
      rw [this]; exact h.1, h.2.1.trans (hb.mono (by omega)), by
      have := hb.block (w.heap.size + 1) (by omega)
      show Y.heap[_]? = _
      rw [this]; exact h.2.2⟩)
    ⟨HK0.out, HBW.out, HK1.out⟩
    (fun A len cap => { tmps := #[.int .i64 n, undef, .int .i64 0, .pointer (some ⟨w.heap.size, 0, none⟩), .int .i64 n, .bool true, .bool false, .int .i64 n, .func (.func 52) #[] #[ptr (w.heap.size + 1)], .slice A len cap, undef, undef, undef], defers := [] }) ?assign ?body ?done
  case assign =>
    intro l2 m2 A len cap X K hK
    gi_wp2
    simpa using hK
  case body =>
    rintro l2 m2 k L A cap X hz hL ⟨hj, hbX, hk1⟩ hI hA hc hm
    have hk : k < stkN n := by rw [← HC.out]; exact (List.getElem?_eq_some_iff.1 hL).1
    have hl := HL.out
    have c0 : X.cell? ⟨w.heap.size, 0, none⟩ = some (.int .i64 k) := hj.cell 0
    have f0 := hj.frozen 0
    have kw : IntKind.i64.wrap ((k : Int) + 1) = (k : Int) + 1 := IntWalk.i64_in _ (by omega)
    have hj2 : Blk (X.setCell ⟨w.heap.size, 0, none⟩ (.int .i64 ((k : Int) + 1))) w.heap.size 3 #[.int .i64 (((k + 1 : Nat)) : Int)] := by
      have := hj.set_ 0 (.int .i64 ((k : Int) + 1))
      simpa using this
    have hG := grown_setC X w.heap.size 0 (.int .i64 ((k : Int) + 1))
    have hk2 := hk1.grown hG (fun e => by have := Option.some.inj e; omega)
    have HJ := Lib.hid (And.intro hj2 (And.intro (hbX.trans (below_set X 0 (.int .i64 ((k : Int) + 1)) (Nat.le_refl w.heap.size))) hk2))
    have HKK : Hid (Kept Wb.heap.size X (X.setCell ⟨w.heap.size, 0, none⟩ (.int .i64 ((k : Int) + 1)))) := ⟨hG.size, fun i h1 h2 => hG.block i h2 (fun e => by have := Option.some.inj e; omega)⟩
    clear hj2 hG hk2 hj hbX hk1 hI hA hk hl
    gi_wp2
    exact ⟨HJ.out, by rw [← hzb]; exact HKK.out⟩
  case done =>
    rintro D X hD ⟨hj, hbX, _⟩ hK
    have c0 : X.cell? ⟨w.heap.size, 0, none⟩ = some (.int .i64 ((stkP n).length : Nat)) := hj.cell 0
    rw [HC.out] at c0
    have hbb : Below w.heap.size w (X.putObj D (.deferred none)) := hbX.trans (below_put (by omega))
    have HBB := Lib.hid hbb
    have HKD := Lib.hid hK
    clear hj hbX hK hbb
    gi_wp2
    refine ⟨by simp, .inl ⟨_, _, rfl, run_takeDeferred HKD.out, ?_⟩⟩
    exact ⟨_, results_tmp rfl _ _ _, rfl, HBB.out⟩
end Go.Proofs.YtkdlipbegdiaaaaGreatDoor
