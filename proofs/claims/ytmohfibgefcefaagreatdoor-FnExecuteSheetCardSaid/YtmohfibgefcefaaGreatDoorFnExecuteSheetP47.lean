/- Words of folds as texts: all words of so many folds, sorted, ranked. No program, no condition. The other side of a text, the program's and the reference's; the words of so many folds as the reference makes them. No condition but sizes. The program's words of so many folds: the closures that fold, all words, sorted. No condition but sizes. Which texts are words, and of how many folds. No program, no condition. Words checked, told by letters and ranked: the program's and the reference's. No condition but sizes. -/
import Derived.Test.YtmohfibgefcefaaGreatDoorFnExecuteSheetP46
import Derived.Laws.OwnMore
import Derived.Test.YtmohfibgefcefaaGreatDoorBytes
namespace Go.Proofs.YtmohfibgefcefaaGreatDoor

/-- the other side of a text -/
def othL (l : List UInt8) : List UInt8 := (l.reverse).map swB
/-- the words of n folds, as the program makes them and as the reference does -/
def wlI : Nat → List (List UInt8)
  | 0 => [[]]
  | n + 1 => (wlI n).flatMap fun w => [w ++ 86 :: othL w, w ++ 77 :: othL w]
def wlS : Nat → List (List UInt8)
  | 0 => [[]]
  | n + 1 => (wlS n).flatMap fun w => [w ++ 77 :: othL w, w ++ 86 :: othL w]
theorem flat2_swap (f g : List UInt8 → List UInt8) (l : List (List UInt8)) : (l.flatMap fun w => [f w, g w]).Perm (l.flatMap fun w => [g w, f w]) := by
  induction l with
  | nil => exact List.Perm.refl _
  | cons z l ih => rw [List.flatMap_cons, List.flatMap_cons]; exact (List.Perm.swap _ _ _).append ih
theorem flat2_perm (f g : List UInt8 → List UInt8) {a b : List (List UInt8)} (h : a.Perm b) : (a.flatMap fun w => [f w, g w]).Perm (b.flatMap fun w => [g w, f w]) := by
  refine List.Perm.trans ?_ (flat2_swap f g b)
  induction h with
  | nil => exact List.Perm.refl _
  | cons x _ ih =>
    rw [List.flatMap_cons, List.flatMap_cons]
    exact (List.Perm.refl _).append ih
  | swap x y l =>
    simp only [List.flatMap_cons]
    rw [← List.append_assoc, ← List.append_assoc]
    exact List.perm_append_comm.append (List.Perm.refl _)
  | trans _ _ ih1 ih2 => exact ih1.trans ih2
theorem wl_perm (n : Nat) : (wlI n).Perm (wlS n) := by
  induction n with
  | zero => exact List.Perm.refl _
  | succ n ih => exact flat2_perm _ _ ih
theorem wlI_len (n : Nat) : (wlI n).length = 2 ^ n := by
  induction n with
  | zero => rfl
  | succ n ih =>
    have : ∀ l : List (List UInt8), (l.flatMap fun w => [w ++ 86 :: othL w, w ++ 77 :: othL w]).length = 2 * l.length := by
      intro l
      induction l with
      | nil => rfl
      | cons x l ih => rw [List.flatMap_cons, List.length_append, ih]; simp; omega
    rw [wlI, this, ih, Nat.pow_succ]; omega
theorem wlS_len (n : Nat) : (wlS n).length = 2 ^ n := by rw [← (wl_perm n).length_eq, wlI_len]
theorem othL_len (l : List UInt8) : (othL l).length = l.length := by simp [othL]
theorem wlI_size {n : Nat} {w : List UInt8} (h : w ∈ wlI n) : w.length + 1 = 2 ^ n := by
  induction n generalizing w with
  | zero => simp [wlI] at h; subst h; rfl
  | succ n ih =>
    rw [wlI, List.mem_flatMap] at h
    obtain ⟨v, hv, hw⟩ := h
    have := ih hv
    simp only [List.mem_cons, List.not_mem_nil, or_false] at hw
    rw [Nat.pow_succ]
    rcases hw with rfl | rfl <;> simp [othL_len] <;> omega
theorem wlI_nodup (n : Nat) : (wlI n).Nodup := by
  induction n with
  | zero => simp [wlI]
  | succ n ih =>
    have key : ∀ l : List (List UInt8), l.Nodup → (∀ w ∈ l, w.length + 1 = 2 ^ n) → (l.flatMap fun w => [w ++ 86 :: othL w, w ++ 77 :: othL w]).Nodup := by
      intro l
      induction l with
      | nil => intro _ _; exact List.nodup_nil
      | cons x l ih2 =>
        intro hn hs
        rw [List.nodup_cons] at hn
        rw [List.flatMap_cons, List.nodup_append]
        have hx := hs x (by simp)
        refine ⟨?_, ih2 hn.2 fun w hw => hs w (by simp [hw]), ?_⟩
        · simp
        · intro a ha b hb
          obtain ⟨v, hv, hw⟩ := List.mem_flatMap.1 hb
          have hvl := hs v (by simp [hv])
          have hne : x ≠ v := fun e => hn.1 (e ▸ hv)
          have hl : x.length = v.length := by omega
          simp only [List.mem_cons, List.not_mem_nil, or_false] at ha hw
          rintro rfl
          apply hne
          have tk : ∀ (u : List UInt8) (c : UInt8) (r : List UInt8), (u ++ c :: r).take u.length = u := fun u c r => by simp
          rcases ha with e1 | e1 <;> rcases hw with e2 | e2
          all_goals
            have t1 := congrArg (List.take x.length) e1
            have t2 := congrArg (List.take v.length) e2
            rw [tk] at t1 t2
            rw [← t1, ← t2, hl]
    exact key _ ih fun w hw => wlI_size hw
/-- texts sorted -/
def srt (l : List (List UInt8)) : List (List UInt8) := l.mergeSort fun x y => decide (x ≤ y)
theorem srt_perm (l : List (List UInt8)) : (srt l).Perm l := List.mergeSort_perm _ _
theorem srt_sorted (l : List (List UInt8)) : (srt l).Pairwise (· ≤ ·) := by
  have := List.pairwise_mergeSort (le := fun x y : List UInt8 => decide (x ≤ y)) (fun a b c h1 h2 => by
    simp only [decide_eq_true_eq] at *
    exact List.le_trans h1 h2) (fun a b => by
    simp only [Bool.or_eq_true, decide_eq_true_eq]
    exact List.le_total a b) l
  exact this.imp fun h => by simpa using h
/-- how many texts are less -/
def cntLt (l : List (List UInt8)) (x : List UInt8) : Nat := l.countP fun y => decide (y < x)
theorem cntLt_perm {l l' : List (List UInt8)} (h : l.Perm l') (x : List UInt8) : cntLt l x = cntLt l' x := h.countP_eq _
theorem srt_lt {l : List (List UInt8)} (hn : l.Nodup) : (srt l).Pairwise (· < ·) := by
  have h1 := srt_sorted l
  have h2 : (srt l).Nodup := (srt_perm l).nodup_iff.2 hn
  rw [List.nodup_iff_pairwise_ne] at h2
  refine (h1.and h2).imp fun {a b} h => ?_
  apply Classical.byContradiction
  intro h3
  exact h.2 (List.le_antisymm h.1 (List.not_lt.1 h3))
/-- a strictly sorted list: as many are less as lie ahead -/
theorem cntLt_at {l : List (List UInt8)} (h : l.Pairwise (· < ·)) {r : Nat} (hr : r < l.length) : cntLt l l[r] = r := by
  induction l generalizing r with
  | nil => simp at hr
  | cons x l ih =>
    rw [List.pairwise_cons] at h
    unfold cntLt
    cases r with
    | zero =>
      rw [List.getElem_cons_zero, List.countP_eq_zero]
      intro y hy
      simp only [decide_eq_true_eq]
      rcases List.mem_cons.1 hy with rfl | hy
      · exact List.lt_irrefl _
      · exact fun h2 => List.lt_irrefl x (List.lt_trans (h.1 y hy) h2)
    | succ r =>
      have hr2 : r < l.length := by simpa using hr
      rw [List.getElem_cons_succ, List.countP_cons_of_pos (by simpa using h.1 _ (List.getElem_mem hr2))]
      have := ih h.2 hr2
      unfold cntLt at this
      rw [this]
/-- the word of a rank -/
def wNth (n r : Nat) : Option (List UInt8) := (srt (wlI n))[r]?
theorem srt_len (n : Nat) : (srt (wlI n)).length = 2 ^ n := by rw [(srt_perm _).length_eq, wlI_len]
theorem rank_at {n r : Nat} {x : List UInt8} (h : wNth n r = some x) : x ∈ wlS n ∧ cntLt (wlS n) x = r := by
  unfold wNth at h
  obtain ⟨hr, hx⟩ := List.getElem?_eq_some_iff.1 h
  have hp := (srt_perm (wlI n)).trans (wl_perm n)
  refine ⟨hp.mem_iff.1 (hx ▸ List.getElem_mem hr), ?_⟩
  rw [← cntLt_perm hp, ← hx]
  exact cntLt_at (srt_lt (wlI_nodup n)) hr
theorem rank_of {n : Nat} {x : List UInt8} (h : x ∈ wlS n) : wNth n (cntLt (wlS n) x) = some x := by
  have hp := (srt_perm (wlI n)).trans (wl_perm n)
  obtain ⟨r, hr, hx⟩ := List.getElem_of_mem (hp.mem_iff.2 h)
  have := cntLt_at (srt_lt (wlI_nodup n)) hr
  rw [hx, cntLt_perm hp] at this
  rw [this]
  unfold wNth
  rw [List.getElem?_eq_getElem hr, hx]
/-- the first of a list that has a rank is the word of this rank -/
def findR (L : List (List UInt8)) (n : Nat) (z : Int) : Option (List UInt8) := L.find? fun x => decide ((cntLt (wlS n) x : Int) = z)
theorem findR_nth (n : Nat) (z : Int) : findR (wlS n) n z = if 0 ≤ z then wNth n z.toNat else none := by
  unfold findR
  cases hf : (wlS n).find? fun x => decide ((cntLt (wlS n) x : Int) = z) with
  | some x =>
    have h1 := List.find?_some hf
    have h2 := List.mem_of_find?_eq_some hf
    simp only [decide_eq_true_eq] at h1
    have h3 := rank_of h2
    rw [if_pos (by omega), ← h3]
    congr 1; omega
  | none =>
    rw [List.find?_eq_none] at hf
    split
    · cases hw : wNth n z.toNat with
      | none => rfl
      | some x =>
        exfalso
        obtain ⟨h1, h2⟩ := rank_at hw
        have := hf x h1
        simp only [decide_eq_true_eq] at this
        omega
    · rfl
end Go.Proofs.YtmohfibgefcefaaGreatDoor
namespace Go.Proofs.YtmohfibgefcefaaGreatDoor
open Go.RowKit

theorem byteVals_set' (bs : List UInt8) (i : Nat) (c : UInt8) : (byteVals bs).set i (.int .u8 (c.toNat : Int)) = byteVals (bs.set i c) := by
  simp [byteVals, List.map_set]
theorem made_zero' (n : Nat) : (madeCells (Value.int .u8 0).cells (n * 1)).toList = byteVals (List.replicate n 0) := by
  apply List.ext_getElem
  · simp [madeCells, byteVals]
  · intro i h1 h2
    simp [madeCells, byteVals, Value.cells, Nat.mod_one]
set_option maxHeartbeats 1000000 in
set_option maxRecDepth 100000 in
theorem impl_otherSide (s : ByteArray) (w : World) (hs : s.size ≤ 1000) :
    Calls Tryz.prog 73 #[.string s] w fun e w' => e = .returned (.string (bts (othL s.data.toList))) ∧ Below w.heap.size w w' := by
  go_enter Tryz.func73, Tryz.ntmps73
  obtain ⟨i0, hi, hz0, hz1, hz2⟩ := info_parts Tryz.infoByte
  obtain ⟨w1, hrun, ho1, hg1⟩ := run_make_full (P := Tryz.prog) w w.heap.size 22 5 i0 (.int .u8 0) 1 Tryz.underlying22 hi hz0 hz1 .i64 .i64 s.size (by rw [hz2]; omega) (by unfold maxLen; omega) (Nat.le_refl w.heap.size)
  rw [made_zero'] at ho1
  have HB := Lib.hid ((Below.refl w.heap.size w).grown hg1 (Nat.le_refl _) (fun _ hh => by cases hh))
  have HO := Lib.hid ho1
  have HR := Lib.hid hrun
  clear ho1 hg1 hi hz0 hz1 hz2 hrun
  go_wp2_with fail
  rw [HR.out]
  go_wp2_with fail
  go_loopg [4, 10] (s.size + 1) (fun g s4 s10 wr => ∃ (i : Nat) (bs : List UInt8), s4 = s4 ∧ i ≤ s.size ∧ s10 = .int .i64 i ∧ s.size - i < g ∧ Hid (Below w.heap.size w wr) ∧ bs.length = s.size ∧ Hid (∀ j, j < i → bs[j]? = s.data.toList.reverse[j]?) ∧
    Hid (wr.ownsRow w.heap.size 5 1 (.slice (some ⟨w.heap.size, 0, none⟩) s.size s.size) s.size (byteVals bs)))
  case atStart => exact ⟨0, List.replicate s.size 0, rfl, Nat.zero_le _, rfl, by omega, HB, by simp, fun j hj => absurd hj (Nat.not_lt_zero j), HO⟩
  case round =>
    obtain ⟨i, bs, _, hi, rfl, hg, HB, hlen, HE, HW⟩ := hrel
    cases gk with
    | zero => omega
    | succ g =>
    by_cases hlt : i < s.size
    · have hown := HW.out
      have c1 := hown.cellAt i (by omega)
      rw [List.getElem?_eq_getElem (by simp [byteVals_len]; omega)] at c1
      have c2 := hown.frozenAt i
      have hms : s.size - 1 - i < s.size := by omega
      have st1 := hown.stored i (.int .u8 ((s[s.size - 1 - i]'hms).toNat : Int))
      rw [byteVals_set'] at st1
      have hb1 := HB.out.grown st1.2 HB.out.size (fun k hk => by cases hk; exact Nat.le_refl _)
      have he : ∀ j, j < i + 1 → (bs.set i (s[s.size - 1 - i]'hms))[j]? = s.data.toList.reverse[j]? := by
        intro j hj
        rw [List.getElem?_set]
        have hsl : s.data.toList.length = s.size := size_list s
        by_cases hji : i = j
        · subst hji
          rw [if_pos rfl, if_pos (by omega), List.getElem?_reverse (by omega), List.getElem?_eq_getElem (by omega)]
          have e2 : s.data.toList.length - 1 - i = s.size - 1 - i := by omega
          simp only [e2]; rfl
        · rw [if_neg hji]; exact HE.out j (by omega)
      have HE2 := Lib.hid he
      have HB2 := Lib.hid hb1
      have HW2 := Lib.hid st1.1
      have kw1 : IntKind.i64.wrap ((s.size : Int) - 1) = (s.size : Int) - 1 := IntWalk.i64_in _ (by omega)
      have kw2 : IntKind.i64.wrap ((s.size : Int) - 1 - (i : Int)) = (s.size : Int) - 1 - (i : Int) := IntWalk.i64_in _ (by omega)
      clear he hb1 st1 hown HE HB HW
      go_wp2_with fail
      go_roundg g
      case measure => omega
      case rel => exact ⟨i + 1, _, trivial, by omega, by go_num, by omega, HB2, by simp [hlen], HE2, HW2⟩
    · obtain rfl : i = s.size := by omega
      have hbe : bs = s.data.toList.reverse := by
        apply List.ext_getElem?
        intro j
        by_cases hj : j < s.size
        · exact HE.out j hj
        · rw [List.getElem?_eq_none (by omega), List.getElem?_eq_none (by rw [List.length_reverse, size_list]; omega)]
      have ho : OwnB wr w.heap.size (.slice (some ⟨w.heap.size, 0, none⟩) s.size s.size) bs := by
        show wr.ownsRow w.heap.size 5 1 _ bs.length (byteVals bs)
        rw [hlen]; exact HW.out
      have hst : (convert 22 9 (.slice (some ⟨w.heap.size, 0, none⟩) s.size s.size)).run Tryz.prog wr = .ok (.string (bts bs)) wr := run_ownB_string ho
      have hz : (bts bs).size ≤ 1000 := by show (List.toArray bs).size ≤ 1000; simp; omega
      have hr : swT (bts bs) = bts (othL s.data.toList) := by rw [hbe]; rfl
      have HRr := Lib.hid hr
      clear ho hr hbe HW
      go_wp2_with fail
      refine (impl_FoldsSwap (bts bs) wr hz).mono ?_
      rintro e w2 ⟨rfl, hb2⟩
      rw [HRr.out]
      have b2 := below_from HB.out hb2 HB.out.size
      go_wp2_with fail
      go_ret
      exact ⟨rfl, b2⟩
end Go.Proofs.YtmohfibgefcefaaGreatDoor
namespace Go.Proofs.YtmohfibgefcefaaGreatDoor
open Go.RowKit

set_option maxHeartbeats 1000000 in
theorem impl_folding (s : ByteArray) (m : UInt8) (g : Nat) (w : World) (hs : s.size ≤ 100) (hg : w.cell? ⟨g, 0, none⟩ = some (.string (bts [m]))) (hgl : g < w.heap.size) :
    Calls Tryz.prog 72 #[.string s, .pointer (some ⟨g, 0, none⟩)] w fun e w' => e = .returned (.string (bts (s.data.toList ++ m :: othL s.data.toList))) ∧ Below w.heap.size w w' := by
  have ho : (othL s.data.toList).length = s.size := by rw [othL_len, size_list]
  obtain ⟨t, ht⟩ : ∃ t, t = bts (othL s.data.toList) := ⟨_, rfl⟩
  have hts : t.size = s.size := by rw [ht]; show (List.toArray _).size = _; simp [ho]
  have a1 : ∀ W, (Op.stringOp .add s (bts [m])).run Tryz.prog W = .ok (.string (s ++ bts [m])) W := fun W => run_string_add_sum W _ _ (by show s.size + 1 ≤ _; omega)
  have hs1 : (s ++ bts [m]).size = s.size + 1 := by rw [ByteArray.size_append]; rfl
  have a2 : ∀ W, (Op.stringOp .add (s ++ bts [m]) t).run Tryz.prog W = .ok (.string (s ++ bts [m] ++ t)) W := fun W => run_string_add_sum W _ _ (by rw [hs1, hts]; omega)
  have hr : s ++ bts [m] ++ t = bts (s.data.toList ++ m :: othL s.data.toList) := by
    rw [ht]
    have e : s = bts s.data.toList := rfl
    rw [e]
    show bts _ ++ bts _ ++ bts _ = _
    rw [ByteArray.mk_append_mk, ByteArray.mk_append_mk]
    congr 1
    simp
  have HT := Lib.hid ht
  have HR := Lib.hid hr
  clear ho ht hts hs1 hr
  go_enter Tryz.func72, Tryz.ntmps72
  go_wp2_with fail
  go_region_held3 (fun W => W.cell? ⟨g, 0, none⟩ = some (.string (bts [m])))
    (first | exact hg | exact (hbx.cell (p := ⟨g, 0, none⟩) (by simpa using hgl)).trans hg)
    ((go_simp; go_at_call 73; refine (impl_otherSide s _ (by omega)).mono ?_; rw [← HT.out]; rintro e w1 ⟨rfl, hbx⟩))
  all_goals
    go_wp2_with fail
    go_ret
    exact ⟨by rw [HR.out]; rfl, below_from (below_drewN (Below.refl _ _) 1) hbx (Nat.le_refl _)⟩
/-- what a function that folds is -/
def FoldV (w : World) (m : UInt8) (v : Value) (g : Nat) : Prop := v = .func (.func 72) #[] #[.pointer (some ⟨g, 0, none⟩)] ∧ g < w.heap.size ∧ w.cell? ⟨g, 0, none⟩ = some (.string (bts [m]))
set_option maxHeartbeats 400000 in
theorem impl_ahead (m : UInt8) (w : World) :
    Calls Tryz.prog 71 #[.string (bts [m])] w fun e w' => (∃ v g, e = .returned v ∧ FoldV w' m v g) ∧ Below w.heap.size w w' := by
  go_enter Tryz.func71, Tryz.ntmps71
  go_wp2_with fail
  go_ret
  exact ⟨⟨_, w.heap.size, rfl, rfl, by simp, by simp⟩, (Below.refl _ _).alloc (Nat.le_refl _) _⟩
set_option maxHeartbeats 400000 in
theorem impl_foldR (w : World) :
    Calls Tryz.prog 35 #[.int .u8 82] w fun e w' => (∃ v g, e = .returned v ∧ FoldV w' 86 v g) ∧ Below w.heap.size w w' := by
  go_enter Tryz.func35, Tryz.ntmps35
  go_wp2_with fail
  refine (impl_ahead 86 w).mono ?_
  rintro e w1 ⟨⟨v, g, rfl, hv⟩, hb⟩
  go_wp2_with fail
  go_ret
  exact ⟨⟨_, g, rfl, hv⟩, hb⟩
set_option maxHeartbeats 400000 in
theorem impl_foldr (w : World) :
    Calls Tryz.prog 35 #[.int .u8 114] w fun e w' => (∃ v g, e = .returned v ∧ FoldV w' 77 v g) ∧ Below w.heap.size w w' := by
  go_enter Tryz.func35, Tryz.ntmps35
  go_wp2_with fail
  refine (impl_ahead 77 w).mono ?_
  rintro e w1 ⟨⟨v, g, rfl, hv⟩, hb⟩
  go_wp2_with fail
  go_ret
  exact ⟨⟨_, g, rfl, hv⟩, hb⟩
end Go.Proofs.YtmohfibgefcefaaGreatDoor
namespace Go.Proofs.YtmohfibgefcefaaGreatDoor

/-- halves that answer each other, down to the empty text -/
def wvN : Nat → List UInt8 → Bool
  | 0, l => decide (l.length = 0)
  | f + 1, l => if l.length = 0 then true else if l.length % 2 = 0 then false else if l.drop (l.length / 2 + 1) = othL (l.take (l.length / 2)) then wvN f (l.take (l.length / 2)) else false
theorem wvN_succ (f : Nat) (l : List UInt8) : wvN (f + 1) l = if l.length = 0 then true else if l.length % 2 = 0 then false else if l.drop (l.length / 2 + 1) = othL (l.take (l.length / 2)) then wvN f (l.take (l.length / 2)) else false := rfl
theorem wvN_more {f : Nat} {l : List UInt8} (h : l.length ≤ f) : wvN (f + 1) l = wvN f l := by
  induction f generalizing l with
  | zero =>
    have h0 : l.length = 0 := by omega
    rw [wvN_succ, if_pos h0]
    show true = decide (l.length = 0)
    rw [decide_eq_true h0]
  | succ f ih =>
    rw [wvN_succ (f + 1) l, wvN_succ f l]
    split
    · rfl
    · split
      · rfl
      · split
        · exact ih (by rw [List.length_take]; omega)
        · rfl
theorem wvN_eq {f g : Nat} {l : List UInt8} (hf : l.length ≤ f) (hg : l.length ≤ g) : wvN f l = wvN g l := by
  have key : ∀ d, wvN (l.length + d) l = wvN l.length l := by
    intro d
    induction d with
    | zero => rfl
    | succ d ih => rw [← Nat.add_assoc, wvN_more (by omega), ih]
  have h1 := key (f - l.length)
  have h2 := key (g - l.length)
  rw [show l.length + (f - l.length) = f from by omega] at h1
  rw [show l.length + (g - l.length) = g from by omega] at h2
  rw [h1, h2]
def wv (l : List UInt8) : Bool := wvN l.length l
theorem wv_nil : wv [] = true := rfl
theorem wv_even {l : List UInt8} (h0 : l.length ≠ 0) (h : l.length % 2 = 0) : wv l = false := by
  unfold wv
  rw [wvN_eq (Nat.le_refl _) (show l.length ≤ l.length + 1 by omega), wvN_succ, if_neg h0, if_pos h]
theorem wv_odd {l : List UInt8} (h : l.length % 2 = 1) : wv l = (decide (l.drop (l.length / 2 + 1) = othL (l.take (l.length / 2))) && wv (l.take (l.length / 2))) := by
  unfold wv
  rw [wvN_eq (Nat.le_refl _) (show l.length ≤ l.length + 1 by omega), wvN_succ, if_neg (by omega), if_neg (by omega)]
  by_cases q : l.drop (l.length / 2 + 1) = othL (l.take (l.length / 2))
  · rw [if_pos q, decide_eq_true q, Bool.true_and]
    exact wvN_eq (by rw [List.length_take]; omega) (Nat.le_refl _)
  · rw [if_neg q, decide_eq_false q, Bool.false_and]
/-- a text of creases of a width -/
def crsB (l : List UInt8) : Bool := decide (l.length ≤ 63) && l.all mvB
def wrdB (l : List UInt8) : Bool := crsB l && wv l
theorem mem_wlI_succ {n : Nat} {l : List UInt8} : l ∈ wlI (n + 1) ↔ ∃ w ∈ wlI n, l = w ++ 86 :: othL w ∨ l = w ++ 77 :: othL w := by
  rw [wlI, List.mem_flatMap]
  constructor
  · rintro ⟨w, hw, h⟩
    simp only [List.mem_cons, List.not_mem_nil, or_false] at h
    exact ⟨w, hw, h⟩
  · rintro ⟨w, hw, h⟩
    exact ⟨w, hw, by simpa using h⟩
theorem mvB_is {c : UInt8} (h : mvB c = true) : c = 77 ∨ c = 86 := by
  unfold mvB at h
  simp only [Bool.or_eq_true, decide_eq_true_eq] at h
  rcases h with h | h
  · exact Or.inl (UInt8.toNat_inj.1 (by rw [h]; rfl))
  · exact Or.inr (UInt8.toNat_inj.1 (by rw [h]; rfl))
/-- a word is a text whose halves answer each other -/
theorem wv_mem {l : List UInt8} (hm : l.all mvB = true) (h : wv l = true) : ∃ n, l ∈ wlI n := by
  obtain ⟨k, hk⟩ : ∃ k, l.length ≤ k := ⟨_, Nat.le_refl _⟩
  induction k generalizing l with
  | zero =>
    have : l = [] := List.eq_nil_of_length_eq_zero (by omega)
    subst this
    exact ⟨0, by simp [wlI]⟩
  | succ k ih =>
    by_cases h0 : l.length = 0
    · have : l = [] := List.eq_nil_of_length_eq_zero h0
      subst this
      exact ⟨0, by simp [wlI]⟩
    · by_cases he : l.length % 2 = 0
      · rw [wv_even h0 he] at h; cases h
      · rw [wv_odd (by omega)] at h
        simp only [Bool.and_eq_true, decide_eq_true_eq] at h
        have hlt : l.length / 2 < l.length := by omega
        obtain ⟨n, hn⟩ := ih (l := l.take (l.length / 2)) (by
          rw [List.all_eq_true] at hm ⊢
          exact fun x hx => hm x (List.mem_of_mem_take hx)) h.2 (by rw [List.length_take]; omega)
        refine ⟨n + 1, mem_wlI_succ.2 ⟨_, hn, ?_⟩⟩
        have e : l = l.take (l.length / 2) ++ l[l.length / 2] :: l.drop (l.length / 2 + 1) := by
          rw [← List.drop_eq_getElem_cons hlt, List.take_append_drop]
        rcases mvB_is (List.all_eq_true.1 hm l[l.length / 2] (List.getElem_mem hlt)) with q | q
        · right; rw [q, h.1] at e; exact e
        · left; rw [q, h.1] at e; exact e
theorem othL_mv {l : List UInt8} (h : l.all mvB = true) : (othL l).all mvB = true := by
  rw [List.all_eq_true] at h ⊢
  intro x hx
  unfold othL at hx
  obtain ⟨c, hc, rfl⟩ := List.mem_map.1 hx
  exact swB_mv (h c (List.mem_reverse.1 hc))
theorem mem_wv {n : Nat} {l : List UInt8} (h : l ∈ wlI n) : l.all mvB = true ∧ wv l = true := by
  induction n generalizing l with
  | zero => simp [wlI] at h; subst h; exact ⟨rfl, rfl⟩
  | succ n ih =>
    obtain ⟨w, hw, e⟩ := mem_wlI_succ.1 h
    obtain ⟨i1, i2⟩ := ih hw
    have key : ∀ c : UInt8, mvB c = true → l = w ++ c :: othL w → l.all mvB = true ∧ wv l = true := by
      rintro c hc rfl
      have hl : (w ++ c :: othL w).length = 2 * w.length + 1 := by simp [othL_len]; omega
      have hd : (w ++ c :: othL w).length / 2 = w.length := by omega
      refine ⟨?_, ?_⟩
      · rw [List.all_append, List.all_cons, i1, hc, othL_mv i1]; rfl
      · rw [wv_odd (by omega), hd]
        have t1 : (w ++ c :: othL w).take w.length = w := by simp
        have t2 : (w ++ c :: othL w).drop (w.length + 1) = othL w := by
          rw [List.drop_append, List.drop_of_length_le (by omega)]; simp
        rw [t1, t2, decide_eq_true rfl, i2]; rfl
    rcases e with e | e
    · exact key 86 rfl e
    · exact key 77 rfl e
theorem wrd_iff {l : List UInt8} : wrdB l = true ↔ ∃ n, n ≤ 6 ∧ l ∈ wlI n := by
  unfold wrdB crsB
  simp only [Bool.and_eq_true, decide_eq_true_eq]
  constructor
  · rintro ⟨⟨h1, h2⟩, h3⟩
    obtain ⟨n, hn⟩ := wv_mem h2 h3
    refine ⟨n, ?_, hn⟩
    have hs := wlI_size hn
    rcases Nat.lt_or_ge 6 n with h7 | h7
    · have : 2 ^ 7 ≤ 2 ^ n := Nat.pow_le_pow_right (by omega) h7
      have h8 : (2 : Nat) ^ 7 = 128 := by decide
      omega
    · exact h7
  · rintro ⟨n, h6, hn⟩
    obtain ⟨h2, h3⟩ := mem_wv hn
    have hs := wlI_size hn
    have : 2 ^ n ≤ 2 ^ 6 := Nat.pow_le_pow_right (by omega) h6
    have h8 : (2 : Nat) ^ 6 = 64 := by decide
    exact ⟨⟨by omega, h2⟩, h3⟩
theorem wlI_one {n m : Nat} {l : List UInt8} (h : l ∈ wlI n) (h' : l ∈ wlI m) : n = m := by
  have h1 := wlI_size h
  have h2 := wlI_size h'
  have e : 2 ^ n = 2 ^ m := by omega
  rcases Nat.lt_trichotomy n m with h3 | h3 | h3
  · have := Nat.pow_lt_pow_right (a := 2) (by omega) h3; omega
  · exact h3
  · have := Nat.pow_lt_pow_right (a := 2) (by omega) h3; omega
/-- the rank that is told of a text -/
def rankZ (l : List UInt8) : Int := if wrdB l then match (List.range 7).find? fun n => decide (l ∈ wlI n) with | some n => (cntLt (wlS n) l : Int) | none => -1 else -1
theorem rankZ_at {n : Nat} {l : List UInt8} (h6 : n ≤ 6) (h : l ∈ wlI n) : rankZ l = (cntLt (wlS n) l : Int) := by
  unfold rankZ
  rw [wrd_iff.2 ⟨n, h6, h⟩, if_pos rfl]
  cases hf : (List.range 7).find? fun n => decide (l ∈ wlI n) with
  | none =>
    rw [List.find?_eq_none] at hf
    have := hf n (List.mem_range.2 (by omega))
    simp [h] at this
  | some m =>
    have h1 := List.find?_some hf
    simp only [decide_eq_true_eq] at h1
    rw [wlI_one h1 h]
theorem rankZ_no {l : List UInt8} (h : wrdB l = false) : rankZ l = -1 := by unfold rankZ; rw [h]; rfl
end Go.Proofs.YtmohfibgefcefaaGreatDoor
namespace Go.Proofs.YtmohfibgefcefaaGreatDoor
open Go.RowKit

theorem ext_list (T : ByteArray) (a b : Nat) : (T.extract a b).data.toList = (T.data.toList.drop a).take (b - a) := by
  rw [ByteArray.data_extract, Array.toList_extract, List.extract_eq_take_drop]
theorem ext_front (T : ByteArray) (m : Nat) : T.extract 0 m = bts (T.data.toList.take m) := by
  apply ByteArray.ext; apply Array.ext'
  show (T.extract 0 m).data.toList = T.data.toList.take m
  rw [ext_list]; simp
theorem ext_back (T : ByteArray) (m : Nat) : T.extract m T.size = bts (T.data.toList.drop m) := by
  apply ByteArray.ext; apply Array.ext'
  show (T.extract m T.size).data.toList = T.data.toList.drop m
  rw [ext_list, List.take_of_length_le (by rw [List.length_drop, size_list]; exact Nat.le_refl _)]
theorem bts_size (l : Tx) : (bts l).size = l.length := by show (List.toArray l).size = _; simp
theorem bts_ne {a b : Tx} (h : a ≠ b) : ((bts a).toList == (bts b).toList) = false := by
  rw [ByteArray.toList_eq, ByteArray.toList_eq, beq_eq_false_iff_ne]; exact h
theorem quo2 (n : Nat) : ((n : Int).tdiv 2 = ((n / 2 : Nat) : Int)) ∧ ((n : Int) / 2 = ((n / 2 : Nat) : Int)) ∧ ((n : Int).tmod 2 = ((n % 2 : Nat) : Int)) ∧ ((n : Int) % 2 = ((n % 2 : Nat) : Int)) := by
  have h1 : (0 : Int) ≤ (n : Int) := by omega
  refine ⟨?_, ?_, ?_, ?_⟩
  · rw [Int.tdiv_eq_ediv_of_nonneg h1]; omega
  · omega
  · rw [Int.tmod_eq_emod_of_nonneg h1]; omega
  · omega
end Go.Proofs.YtmohfibgefcefaaGreatDoor
