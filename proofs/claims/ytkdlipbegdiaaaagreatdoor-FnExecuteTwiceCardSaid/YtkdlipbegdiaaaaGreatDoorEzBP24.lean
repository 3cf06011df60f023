/- Words of letters: the program's and the reference's. No condition but sizes. -/
import Derived.Test.YtkdlipbegdiaaaaGreatDoorEzBP23
namespace Go.Proofs.YtkdlipbegdiaaaaGreatDoor
open Go.RowKit
/-- a letter that folds the width -/
def wideB (c : UInt8) : Bool := decide (c = 82) || decide (c = 76) || decide (c = 114) || decide (c = 108)
/-- the middle crease of a letter -/
def midB (c : UInt8) : UInt8 := if 97 ≤ c.toNat then 77 else 86
/-- one letter folded ahead of a word -/
def wof1 (c : UInt8) (w : Tx) : Tx := if c = 82 ∨ c = 114 then w ++ midB c :: othL w else othL w ++ midB c :: w
/-- the word of a text of letters -/
def wof : Tx → Tx
  | [] => []
  | c :: r => wof1 c (wof r)
theorem wof1_len (c : UInt8) (w : Tx) : (wof1 c w).length = 2 * w.length + 1 := by
  unfold wof1
  split <;> simp [othL_len] <;> omega
theorem wof_len (l : Tx) : (wof l).length + 1 = 2 ^ l.length := by
  induction l with
  | nil => rfl
  | cons c r ih =>
    show (wof1 c (wof r)).length + 1 = _
    rw [wof1_len, List.length_cons, Nat.pow_succ]; omega
theorem wof_short {l : Tx} (h : l.length ≤ 6) : (wof l).length ≤ 63 := by
  have h1 := wof_len l
  have h2 : 2 ^ l.length ≤ 2 ^ 6 := Nat.pow_le_pow_right (by omega) h
  have h3 : (2 : Nat) ^ 6 = 64 := rfl
  omega
/-- the answer of WordOf -/
def wofO (s : Tx) : Option Tx := if s.length ≤ 6 ∧ s.all wideB = true then some (wof s) else none
theorem wide_cases {c : UInt8} (h : wideB c = true) : c = 82 ∨ c = 76 ∨ c = 114 ∨ c = 108 := by
  unfold wideB at h
  simp only [Bool.or_eq_true, decide_eq_true_eq] at h
  rcases h with ((h | h) | h) | h
  · exact Or.inl h
  · exact Or.inr (Or.inl h)
  · exact Or.inr (Or.inr (Or.inl h))
  · exact Or.inr (Or.inr (Or.inr h))
theorem wof1_R (w : Tx) : wof1 82 w = w ++ 86 :: othL w := rfl
theorem wof1_r (w : Tx) : wof1 114 w = w ++ 77 :: othL w := rfl
theorem wof1_L (w : Tx) : wof1 76 w = othL w ++ 86 :: w := rfl
theorem wof1_l (w : Tx) : wof1 108 w = othL w ++ 77 :: w := rfl
set_option maxHeartbeats 1000000 in
theorem impl_foldingB (s : ByteArray) (m : UInt8) (g : Nat) (w : World) (hs : s.size ≤ 100) (hg : w.cell? ⟨g, 0, none⟩ = some (.string (bts [m]))) (hgl : g < w.heap.size) :
    Calls Tryz.prog 183 #[.string s, .pointer (some ⟨g, 0, none⟩)] w fun e w' => e = .returned (.string (bts (othL s.data.toList ++ m :: s.data.toList))) ∧ Below w.heap.size w w' := by
  have ho : (othL s.data.toList).length = s.size := by rw [othL_len, size_list]
  obtain ⟨t, ht⟩ : ∃ t, t = bts (othL s.data.toList) := ⟨_, rfl⟩
  have hts : t.size = s.size := by rw [ht]; show (List.toArray _).size = _; simp [ho]
  have a1 : ∀ W, (Op.stringOp .add t (bts [m])).run Tryz.prog W = .ok (.string (t ++ bts [m])) W := fun W => run_string_add_sum W _ _ (by show t.size + 1 ≤ _; omega)
  have hs1 : (t ++ bts [m]).size = s.size + 1 := by rw [ByteArray.size_append, hts]; rfl
  have a2 : ∀ W, (Op.stringOp .add (t ++ bts [m]) s).run Tryz.prog W = .ok (.string (t ++ bts [m] ++ s)) W := fun W => run_string_add_sum W _ _ (by rw [hs1]; omega)
  have hr : t ++ bts [m] ++ s = bts (othL s.data.toList ++ m :: s.data.toList) := by
    rw [ht]
    have e : s = bts s.data.toList := rfl
    rw [e]
    show bts _ ++ bts _ ++ bts _ = _
    rw [ByteArray.mk_append_mk, ByteArray.mk_append_mk]
    congr 1
    simp
  have HT := Lib.hid ht
  have HR := Lib.hid hr
  clear ho ht hts hs1 hr
  go_enter Tryz.func183, Tryz.ntmps183
  go_wp2_with fail
  go_region_held3 (fun W => W.cell? ⟨g, 0, none⟩ = some (.string (bts [m])))
    (first | exact hg | exact (hbx.cell (p := ⟨g, 0, none⟩) (by simpa using hgl)).trans hg)
    ((go_simp; go_at_call 181; refine (impl_otherSide s _ (by omega)).mono ?_; rw [← HT.out]; rintro e w1 ⟨rfl, hbx⟩))
  all_goals
    go_wp2_with fail
    go_ret
    exact ⟨by rw [HR.out]; rfl, below_from (below_drewN (Below.refl _ _) 1) hbx (Nat.le_refl _)⟩
/-- what a function that folds behind is -/
def FoldW (w : World) (m : UInt8) (v : Value) (g : Nat) : Prop := v = .func (.func 183) #[] #[.pointer (some ⟨g, 0, none⟩)] ∧ g < w.heap.size ∧ w.cell? ⟨g, 0, none⟩ = some (.string (bts [m]))
set_option maxHeartbeats 400000 in
theorem impl_behind (m : UInt8) (w : World) :
    Calls Tryz.prog 182 #[.string (bts [m])] w fun e w' => (∃ v g, e = .returned v ∧ FoldW w' m v g) ∧ Below w.heap.size w w' := by
  go_enter Tryz.func182, Tryz.ntmps182
  go_wp2_with fail
  go_ret
  exact ⟨⟨_, w.heap.size, rfl, rfl, by simp, by simp⟩, (Below.refl _ _).alloc (Nat.le_refl _) _⟩
set_option maxHeartbeats 400000 in
theorem impl_foldL (w : World) :
    Calls Tryz.prog 165 #[.int .u8 76] w fun e w' => (∃ v g, e = .returned v ∧ FoldW w' 86 v g) ∧ Below w.heap.size w w' := by
  go_enter Tryz.func165, Tryz.ntmps165
  go_wp2_with fail
  refine (impl_behind 86 w).mono ?_
  rintro e w1 ⟨⟨v, g, rfl, hv⟩, hb⟩
  go_wp2_with fail
  go_ret
  exact ⟨⟨_, g, rfl, hv⟩, hb⟩
set_option maxHeartbeats 400000 in
theorem impl_foldl (w : World) :
    Calls Tryz.prog 165 #[.int .u8 108] w fun e w' => (∃ v g, e = .returned v ∧ FoldW w' 77 v g) ∧ Below w.heap.size w w' := by
  go_enter Tryz.func165, Tryz.ntmps165
  go_wp2_with fail
  refine (impl_behind 77 w).mono ?_
  rintro e w1 ⟨⟨v, g, rfl, hv⟩, hb⟩
  go_wp2_with fail
  go_ret
  exact ⟨⟨_, g, rfl, hv⟩, hb⟩
set_option maxHeartbeats 400000 in
theorem impl_foldNo (c : Nat) (h1 : c ≠ 82) (h2 : c ≠ 76) (h3 : c ≠ 114) (h4 : c ≠ 108) (w : World) :
    Calls Tryz.prog 165 #[.int .u8 c] w fun e w' => e = .returned .nilFunc ∧ w = w' := by
  have d1 : ((c : Int) == 82) = false := by rw [beq_eq_false_iff_ne]; omega
  have d2 : ((c : Int) == 76) = false := by rw [beq_eq_false_iff_ne]; omega
  have d3 : ((c : Int) == 114) = false := by rw [beq_eq_false_iff_ne]; omega
  have d4 : ((c : Int) == 108) = false := by rw [beq_eq_false_iff_ne]; omega
  go_enter Tryz.func165, Tryz.ntmps165
  go_wp2_with fail
  go_ret
  exact ⟨rfl, rfl⟩
/-- a function that folds by the letter c -/
def FoldC (w : World) (c : UInt8) (v : Value) : Prop := ∃ k g, v = .func (.func k) #[] #[.pointer (some ⟨g, 0, none⟩)] ∧ (k = 180 ∨ k = 183) ∧ ∀ (s : ByteArray) (W : World), s.size ≤ 100 → Below w.heap.size w W → Calls Tryz.prog k #[.string s, .pointer (some ⟨g, 0, none⟩)] W fun e w' => e = .returned (.string (bts (wof1 c s.data.toList))) ∧ Below W.heap.size W w'
set_option maxRecDepth 100000 in
theorem func_nil (f : Fn) (a b : Array Value) (W : World) : (binOp .eql 28 (.func f a b) .nilFunc).run Tryz.prog W = .ok (.bool false) W := by rfl
set_option maxRecDepth 100000 in
theorem nil_nil (W : World) : (binOp .eql 28 .nilFunc .nilFunc).run Tryz.prog W = .ok (.bool true) W := by rfl
theorem impl_foldingOf (c : UInt8) (h : wideB c = true) (w : World) :
    Calls Tryz.prog 165 #[.int .u8 (c.toNat : Int)] w fun e w' => (∃ v, e = .returned v ∧ FoldC w' c v) ∧ Below w.heap.size w w' := by
  rcases wide_cases h with rfl | rfl | rfl | rfl
  · refine (impl_foldR w).mono ?_
    rintro e w1 ⟨⟨v, g, rfl, rfl, hg, hc⟩, hb⟩
    exact ⟨⟨_, rfl, _, g, rfl, Or.inl rfl, fun s W hs hW => impl_folding s 86 g W hs ((hW.cell (p := ⟨g, 0, none⟩) hg).trans hc) (Nat.lt_of_lt_of_le hg hW.size)⟩, hb⟩
  · refine (impl_foldL w).mono ?_
    rintro e w1 ⟨⟨v, g, rfl, rfl, hg, hc⟩, hb⟩
    exact ⟨⟨_, rfl, _, g, rfl, Or.inr rfl, fun s W hs hW => impl_foldingB s 86 g W hs ((hW.cell (p := ⟨g, 0, none⟩) hg).trans hc) (Nat.lt_of_lt_of_le hg hW.size)⟩, hb⟩
  · refine (impl_foldr w).mono ?_
    rintro e w1 ⟨⟨v, g, rfl, rfl, hg, hc⟩, hb⟩
    exact ⟨⟨_, rfl, _, g, rfl, Or.inl rfl, fun s W hs hW => impl_folding s 77 g W hs ((hW.cell (p := ⟨g, 0, none⟩) hg).trans hc) (Nat.lt_of_lt_of_le hg hW.size)⟩, hb⟩
  · refine (impl_foldl w).mono ?_
    rintro e w1 ⟨⟨v, g, rfl, rfl, hg, hc⟩, hb⟩
    exact ⟨⟨_, rfl, _, g, rfl, Or.inr rfl, fun s W hs hW => impl_foldingB s 77 g W hs ((hW.cell (p := ⟨g, 0, none⟩) hg).trans hc) (Nat.lt_of_lt_of_le hg hW.size)⟩, hb⟩
set_option maxHeartbeats 1000000 in
set_option maxRecDepth 100000 in
theorem impl_WordOf (s : ByteArray) (w : World) (hs : s.size ≤ 1000) :
    Calls Tryz.prog 138 #[.string s] w fun e w' => e = .returned (.tuple #[.string (bts ((wofO s.data.toList).getD [])), .bool (wofO s.data.toList).isSome]) ∧ Below w.heap.size w w' := by
  by_cases h6 : s.size ≤ 6
  · have h1000 : s.size ≤ 1000 := hs
    have e0 : wof (s.data.toList.drop s.size) = [] := by rw [List.drop_of_length_le (by rw [size_list]; exact Nat.le_refl _)]; rfl
    have HA0 : Hid ((s.data.toList.drop s.size).all wideB = true) := by show _ = _; rw [List.drop_of_length_le (by rw [size_list]; exact Nat.le_refl _)]; rfl
    have kw0 : IntKind.i64.wrap ((s.size : Int) - 1) = (s.size : Int) - 1 := IntWalk.i64_in _ (by omega)
    have E0 := Lib.hid e0
    clear e0
    go_enter Tryz.func138, Tryz.ntmps138
    go_wp2_with fail
    go_loopg [4, 5, 6] (s.size + 1) (fun gg s4 s5 s6 wr => ∃ (j : Nat) (z : Int), s6 = s6 ∧ j ≤ s.size ∧ z + 1 = (j : Int) ∧ s5 = .int .i64 z ∧ s4 = .string (bts (wof (s.data.toList.drop j))) ∧ j < gg ∧ Hid ((s.data.toList.drop j).all wideB = true) ∧ Hid (Below w.heap.size w wr))
    case atStart => exact ⟨s.size, (s.size : Int) - 1, rfl, Nat.le_refl _, by omega, rfl, by rw [E0.out], by omega, HA0, Below.refl _ _⟩
    case round =>
      clear HA0 E0 kw0
      obtain ⟨j, z, _, hj, hz, rfl, rfl, hg, HA, HB⟩ := hrel
      cases gk with
      | zero => omega
      | succ g1 =>
      by_cases h0 : j = 0
      · subst h0
        obtain rfl : z = -1 := by omega
        have hA := HA.out
        rw [List.drop_zero] at hA ⊢
        have e : wofO s.data.toList = some (wof s.data.toList) := by unfold wofO; rw [if_pos ⟨by rw [size_list]; exact h6, hA⟩]
        have E := Lib.hid e
        clear e hA HA
        go_wp2_with fail
        go_ret2
        exact ⟨by rw [E.out]; rfl, HB.out⟩
      · obtain ⟨k, rfl⟩ : ∃ k, j = k + 1 := ⟨j - 1, by omega⟩
        obtain rfl : z = (k : Int) := by omega
        have hk : k < s.size := by omega
        have k0 : (0 : Int) ≤ (k : Int) := by omega
        have k1 : (k : Int) < (s.size : Int) := by omega
        have kw : IntKind.i64.wrap ((k : Int) - 1) = (k : Int) - 1 := IntWalk.i64_in _ (by omega)
        have hd := byte_drop hk
        cases hw : wideB s[k] with
        | true =>
          obtain ⟨x, hx⟩ : ∃ x, x = wof (s.data.toList.drop (k + 1)) := ⟨_, rfl⟩
          have hxs : (bts x).size ≤ 100 := by
            show (List.toArray x).size ≤ 100
            have := wof_short (l := s.data.toList.drop (k + 1)) (by rw [List.length_drop, size_list]; omega)
            rw [List.size_toArray, hx]; omega
          have he : wof (s.data.toList.drop k) = wof1 s[k] x := by rw [hd, hx]; rfl
          have HA2 : Hid ((s.data.toList.drop k).all wideB = true) := by show _ = _; rw [hd, List.all_cons, hw, HA.out]; rfl
          have HE := Lib.hid he
          have HF := Lib.hid (fun W : World => impl_foldingOf s[k] hw W)
          rw [← hx]
          clear hd hw hx he HA
          go_wp2_with fail
          refine (HF.out wr).mono ?_
          rintro e w1 ⟨⟨v, rfl, kf, g, rfl, hk2, hF⟩, hb1⟩
          have HG := Lib.hid (hF (bts x) w1 hxs (Below.refl _ _))
          have HB1 := Lib.hid (below_from HB.out hb1 HB.out.size)
          clear hF hb1 HF
          rcases hk2 with rfl | rfl
          all_goals
            go_wp2_with fail
            rw [func_nil]
            go_wp2_with fail
            refine HG.out.mono ?_
            rintro e w2 ⟨rfl, hb2⟩
            have HB2 := Lib.hid (below_from HB1.out hb2 HB1.out.size)
            clear hb2 HG
            go_wp2_with fail
            go_roundg g1
            case measure => omega
            case rel => exact ⟨k, (k : Int) - 1, trivial, by omega, by omega, by go_num, by rw [HE.out], by omega, HA2, HB2⟩
        | false =>
          have e : wofO s.data.toList = none := by
            unfold wofO
            rw [if_neg]
            intro hh
            have hm : s[k] ∈ s.data.toList := by
              have : s[k] ∈ s.data.toList.drop k := by rw [hd]; exact List.mem_cons_self
              exact List.mem_of_mem_drop this
            have := List.all_eq_true.1 hh.2 _ hm
            rw [hw] at this; cases this
          have E := Lib.hid e
          have hn : s[k] ≠ 82 ∧ s[k] ≠ 76 ∧ s[k] ≠ 114 ∧ s[k] ≠ 108 := by
            unfold wideB at hw
            simp only [Bool.or_eq_false_iff, decide_eq_false_iff_not] at hw
            exact ⟨hw.1.1.1, hw.1.1.2, hw.1.2, hw.2⟩
          have HF := Lib.hid (fun W : World => impl_foldNo s[k].toNat (fun e => hn.1 (UInt8.toNat_inj.1 (by rw [e]; rfl))) (fun e => hn.2.1 (UInt8.toNat_inj.1 (by rw [e]; rfl))) (fun e => hn.2.2.1 (UInt8.toNat_inj.1 (by rw [e]; rfl))) (fun e => hn.2.2.2 (UInt8.toNat_inj.1 (by rw [e]; rfl))) W)
          clear e hd hw hn HA
          go_wp2_with fail
          refine (HF.out wr).mono ?_
          rintro e _ ⟨rfl, rfl⟩
          go_wp2_with fail
          rw [nil_nil]
          go_wp2_with fail
          go_ret2
          exact ⟨by rw [E.out]; rfl, HB.out⟩
  · have e : wofO s.data.toList = none := by unfold wofO; rw [if_neg]; rw [size_list]; omega
    have E := Lib.hid e
    have d1 : decide ((6 : Int) < (s.size : Int)) = true := by simp; omega
    clear e
    go_enter Tryz.func138, Tryz.ntmps138
    go_wp2_with fail
    go_ret2
    exact ⟨by rw [E.out]; rfl, Below.refl _ _⟩
set_option maxHeartbeats 400000 in
theorem spec_l4Wide (c : UInt8) (w : World) :
    Calls Tryz.prog 118 #[.int .u8 (c.toNat : Int)] w fun e w' => e = .returned (.bool (wideB c)) ∧ w = w' := by
  cases hw : wideB c with
  | true =>
    rcases wide_cases hw with rfl | rfl | rfl | rfl
    all_goals
      go_enter Tryz.func118, Tryz.ntmps118
      go_wp2_with fail
      go_ret
      exact ⟨rfl, rfl⟩
  | false =>
    have hn : c ≠ 82 ∧ c ≠ 76 ∧ c ≠ 114 ∧ c ≠ 108 := by
      unfold wideB at hw
      simp only [Bool.or_eq_false_iff, decide_eq_false_iff_not] at hw
      exact ⟨hw.1.1.1, hw.1.1.2, hw.1.2, hw.2⟩
    obtain ⟨n, e⟩ : ∃ n, n = c.toNat := ⟨_, rfl⟩
    have n1 : n ≠ 82 := fun h => hn.1 (UInt8.toNat_inj.1 (by rw [← e, h]; rfl))
    have n2 : n ≠ 76 := fun h => hn.2.1 (UInt8.toNat_inj.1 (by rw [← e, h]; rfl))
    have n3 : n ≠ 114 := fun h => hn.2.2.1 (UInt8.toNat_inj.1 (by rw [← e, h]; rfl))
    have n4 : n ≠ 108 := fun h => hn.2.2.2 (UInt8.toNat_inj.1 (by rw [← e, h]; rfl))
    rw [← e]
    clear hn e hw
    have d1 : ((n : Int) == 82) = false := by rw [beq_eq_false_iff_ne]; omega
    have d2 : ((n : Int) == 76) = false := by rw [beq_eq_false_iff_ne]; omega
    have d3 : ((n : Int) == 114) = false := by rw [beq_eq_false_iff_ne]; omega
    have d4 : ((n : Int) == 108) = false := by rw [beq_eq_false_iff_ne]; omega
    go_enter Tryz.func118, Tryz.ntmps118
    go_wp2_with fail
    go_ret
    exact ⟨rfl, rfl⟩
set_option maxHeartbeats 1000000 in
set_option maxRecDepth 100000 in
theorem spec_l5Of (k : Nat) (s : ByteArray) (w : World) (hk : k ≤ 6) (hs : s.size = k) (hw : s.data.toList.all wideB = true) :
    Calls Tryz.prog 119 #[.string s] w fun e w' => e = .returned (.string (bts (wof s.data.toList))) ∧ w = w' := by
  induction k generalizing s w with
  | zero =>
    have h0 : s = ByteArray.empty := by
      apply ByteArray.ext; apply Array.ext'
      have : s.data.toList = [] := List.eq_nil_of_length_eq_zero (by rw [size_list]; exact hs)
      rw [this]; rfl
    subst h0
    go_enter Tryz.func119, Tryz.ntmps119
    go_wp2_with fail
    go_ret
    exact ⟨rfl, rfl⟩
  | succ k ih =>
    have d0 : s.toList.isEmpty = false := by
      rw [ByteArray.toList_eq]
      cases e : s.data.toList with
      | nil =>
        have : s.data.toList.length = 0 := by rw [e]; rfl
        rw [size_list] at this
        omega
      | cons _ _ => rfl
    have h0s : 0 < s.size := by omega
    have hd := byte_drop h0s
    rw [List.drop_zero] at hd
    obtain ⟨T, hT⟩ : ∃ T, T = s.extract 1 s.size := ⟨_, rfl⟩
    have hTl : T.data.toList = s.data.toList.drop (0 + 1) := by rw [hT, ext_back, bts_list]
    have hTs : T.size = k := by rw [hT, ByteArray.size_extract]; omega
    have e1 : s.extract 1 s.size = T := hT.symm
    have s1 : (1 : Int) ≤ (s.size : Int) := by omega
    have s0 : (0 : Int) < (s.size : Int) := by omega
    have hwT : T.data.toList.all wideB = true := by
      rw [hd, ← hTl, List.all_cons, Bool.and_eq_true] at hw; exact hw.2
    have hwc : wideB s[0] = true := by
      rw [hd, List.all_cons, Bool.and_eq_true] at hw; exact hw.1
    have hans : wof s.data.toList = wof1 s[0] (wof T.data.toList) := by rw [hd, ← hTl]; rfl
    obtain ⟨x, hx⟩ : ∃ x, x = wof T.data.toList := ⟨_, rfl⟩
    have hxl : x.length ≤ 63 := by rw [hx]; exact wof_short (by rw [size_list]; omega)
    have HIH := Lib.hid (fun W : World => ih T W (by omega) hTs hwT)
    rw [← hx] at hans HIH
    have hts : (bts x).size ≤ 63 := by show (List.toArray x).size ≤ 63; simp; exact hxl
    obtain ⟨O, hO⟩ : ∃ O, O = bts (othL x) := ⟨_, rfl⟩
    have hos : O.size ≤ 63 := by rw [hO]; show (List.toArray _).size ≤ 63; rw [List.size_toArray, othL_len]; exact hxl
    have HO : Hid (∀ W : World, Calls Tryz.prog 146 #[.string (bts x)] W fun e w' => e = .returned (.string O) ∧ W = w') := by
      show ∀ W : World, _
      intro W
      rw [hO]
      exact spec_l5Other (bts x) W (by omega)
    obtain ⟨t, ht⟩ : ∃ t, t = bts x := ⟨_, rfl⟩
    have HR : Hid (t ++ ByteArray.mk #[86] ++ O = bts (wof1 82 x)) := by show _ = _; rw [wof1_R, ht, hO]; show bts _ ++ bts _ ++ bts _ = _; rw [ByteArray.mk_append_mk, ByteArray.mk_append_mk]; congr 1; simp
    have Hr : Hid (t ++ ByteArray.mk #[77] ++ O = bts (wof1 114 x)) := by show _ = _; rw [wof1_r, ht, hO]; show bts _ ++ bts _ ++ bts _ = _; rw [ByteArray.mk_append_mk, ByteArray.mk_append_mk]; congr 1; simp
    have HL : Hid (O ++ ByteArray.mk #[86] ++ t = bts (wof1 76 x)) := by show _ = _; rw [wof1_L, ht, hO]; show bts _ ++ bts _ ++ bts _ = _; rw [ByteArray.mk_append_mk, ByteArray.mk_append_mk]; congr 1; simp
    have Hl : Hid (O ++ ByteArray.mk #[77] ++ t = bts (wof1 108 x)) := by show _ = _; rw [wof1_l, ht, hO]; show bts _ ++ bts _ ++ bts _ = _; rw [ByteArray.mk_append_mk, ByteArray.mk_append_mk]; congr 1; simp
    rw [← ht] at hts HO HIH
    clear hx ht hO hxl hT hTl hwT hd hw ih hs
    have b1 : ∀ (m a : ByteArray) (W : World), m.size = 1 → a.size ≤ 63 → (Op.stringOp .add a m).run Tryz.prog W = .ok (.string (a ++ m)) W := fun m a W hm ha => run_string_add_sum W _ _ (by omega)
    have b2 : ∀ (m a b : ByteArray) (W : World), m.size = 1 → a.size ≤ 63 → b.size ≤ 63 → (Op.stringOp .add (a ++ m) b).run Tryz.prog W = .ok (.string (a ++ m ++ b)) W := fun m a b W hm ha hb => run_string_add_sum W _ _ (by rw [ByteArray.size_append]; omega)
    have a1 := fun W => b1 (ByteArray.mk #[86]) t W rfl hts
    have a2 := fun W => b2 (ByteArray.mk #[86]) t O W rfl hts hos
    have a3 := fun W => b1 (ByteArray.mk #[86]) O W rfl hos
    have a4 := fun W => b2 (ByteArray.mk #[86]) O t W rfl hos hts
    have a5 := fun W => b1 (ByteArray.mk #[77]) t W rfl hts
    have a6 := fun W => b2 (ByteArray.mk #[77]) t O W rfl hts hos
    have a7 := fun W => b1 (ByteArray.mk #[77]) O W rfl hos
    have a8 := fun W => b2 (ByteArray.mk #[77]) O t W rfl hos hts
    clear b1 b2 hts hos
    obtain ⟨ch, hch⟩ : ∃ ch : UInt8, ch = s[0] := ⟨_, rfl⟩
    rw [hans]
    rw [← hch] at hwc ⊢
    have HC := Lib.hid hch
    rcases wide_cases hwc with rfl | rfl | rfl | rfl
    · have g1 : decide ((97 : Int) ≤ ((s[0] : UInt8).toNat : Int)) = false := by rw [← hch]; rfl
      have g2 : (((s[0] : UInt8).toNat : Int) == 82) = true := by rw [← hch]; rfl
      clear hans hch hwc HC
      go_enter Tryz.func119, Tryz.ntmps119
      go_wp2_with fail
      refine (HIH.out w).mono ?_
      rintro e _ ⟨rfl, rfl⟩
      go_wp2_with (go_at_call 146; refine (HO.out _).mono ?_; rintro e _ ⟨rfl, rfl⟩)
      go_ret
      exact ⟨by rw [HR.out]; rfl, rfl⟩
    · have g1 : decide ((97 : Int) ≤ ((s[0] : UInt8).toNat : Int)) = false := by rw [← hch]; rfl
      have g2 : (((s[0] : UInt8).toNat : Int) == 82) = false := by rw [← hch]; rfl
      have g3 : (((s[0] : UInt8).toNat : Int) == 114) = false := by rw [← hch]; rfl
      clear hans hch hwc HC
      go_enter Tryz.func119, Tryz.ntmps119
      go_wp2_with fail
      refine (HIH.out w).mono ?_
      rintro e _ ⟨rfl, rfl⟩
      go_wp2_with (go_at_call 146; refine (HO.out _).mono ?_; rintro e _ ⟨rfl, rfl⟩)
      go_ret
      exact ⟨by rw [HL.out]; rfl, rfl⟩
    · have g1 : decide ((97 : Int) ≤ ((s[0] : UInt8).toNat : Int)) = true := by rw [← hch]; rfl
      have g2 : (((s[0] : UInt8).toNat : Int) == 82) = false := by rw [← hch]; rfl
      have g3 : (((s[0] : UInt8).toNat : Int) == 114) = true := by rw [← hch]; rfl
      clear hans hch hwc HC
      go_enter Tryz.func119, Tryz.ntmps119
      go_wp2_with fail
      refine (HIH.out w).mono ?_
      rintro e _ ⟨rfl, rfl⟩
      go_wp2_with (go_at_call 146; refine (HO.out _).mono ?_; rintro e _ ⟨rfl, rfl⟩)
      go_ret
      exact ⟨by rw [Hr.out]; rfl, rfl⟩
    · have g1 : decide ((97 : Int) ≤ ((s[0] : UInt8).toNat : Int)) = true := by rw [← hch]; rfl
      have g2 : (((s[0] : UInt8).toNat : Int) == 82) = false := by rw [← hch]; rfl
      have g3 : (((s[0] : UInt8).toNat : Int) == 114) = false := by rw [← hch]; rfl
      clear hans hch hwc HC
      go_enter Tryz.func119, Tryz.ntmps119
      go_wp2_with fail
      refine (HIH.out w).mono ?_
      rintro e _ ⟨rfl, rfl⟩
      go_wp2_with (go_at_call 146; refine (HO.out _).mono ?_; rintro e _ ⟨rfl, rfl⟩)
      go_ret
      exact ⟨by rw [Hl.out]; rfl, rfl⟩
set_option maxHeartbeats 1000000 in
set_option maxRecDepth 100000 in
theorem spec_WordOf (s : ByteArray) (w : World) (hs : s.size ≤ 1000) :
    Calls Tryz.prog 90 #[.string s] w fun e w' => e = .returned (.tuple #[.string (bts ((wofO s.data.toList).getD [])), .bool (wofO s.data.toList).isSome]) ∧ w = w' := by
  go_enter Tryz.func90, Tryz.ntmps90
  go_wp2_with fail
  go_loop [4] (fun s4 => ∃ (k : Nat), k ≤ s.size ∧ s4 = .int .i64 k ∧ Hid ((s.data.toList.take k).all wideB = true)) (fun s4 => s.size - (intOf s4).toNat)
  case atStart => exact ⟨0, Nat.zero_le _, rfl, rfl⟩
  case round =>
    obtain ⟨k, hk, rfl, HA⟩ := hrel
    by_cases hlt : k < s.size
    · have k1 : (k : Int) < (s.size : Int) := by omega
      have k0 : (0 : Int) ≤ (k : Int) := by omega
      have hF := fun W : World => spec_l4Wide s[k] W
      cases hw : wideB s[k] with
      | true =>
        have HA2 : Hid ((s.data.toList.take (k + 1)).all wideB = true) := by
          show _ = _
          rw [List.take_succ_eq_append_getElem (by rw [size_list]; exact hlt), List.all_append, HA.out]
          show (true && (wideB s[k] && true)) = true
          rw [hw]; rfl
        rw [hw] at hF
        have HF := Lib.hid hF
        clear hF hw HA
        go_wp2_with fail
        refine (HF.out w).mono ?_
        rintro e _ ⟨rfl, rfl⟩
        go_wp2_with fail
        go_round
        case rel => exact ⟨k + 1, by omega, by go_num, HA2⟩
        case measure => simp [intOf]; omega
      | false =>
        have e : wofO s.data.toList = none := by
          unfold wofO
          rw [if_neg]
          intro hh
          have hm : s[k] ∈ s.data.toList := by
            have : s[k] ∈ s.data.toList.drop k := by rw [byte_drop hlt]; exact List.mem_cons_self
            exact List.mem_of_mem_drop this
          have := List.all_eq_true.1 hh.2 _ hm
          rw [hw] at this; cases this
        have E := Lib.hid e
        rw [hw] at hF
        have HF := Lib.hid hF
        clear e hF hw HA
        go_wp2_with fail
        refine (HF.out w).mono ?_
        rintro e _ ⟨rfl, rfl⟩
        go_wp2_with fail
        go_ret2
        exact ⟨by rw [E.out]; rfl, rfl⟩
    · obtain rfl : k = s.size := by omega
      have hA := HA.out
      rw [List.take_of_length_le (by rw [size_list]; exact Nat.le_refl _)] at hA
      by_cases h6 : s.size ≤ 6
      · have e : wofO s.data.toList = some (wof s.data.toList) := by unfold wofO; rw [if_pos ⟨by rw [size_list]; exact h6, hA⟩]
        have E := Lib.hid e
        have HC := Lib.hid (fun W : World => spec_l5Of s.size s W h6 rfl hA)
        have d1 : decide ((6 : Int) < (s.size : Int)) = false := by simp; omega
        clear e hA HA
        go_wp2_with fail
        refine (HC.out w).mono ?_
        rintro e _ ⟨rfl, rfl⟩
        go_wp2_with fail
        go_ret2
        exact ⟨by rw [E.out]; rfl, rfl⟩
      · have e : wofO s.data.toList = none := by unfold wofO; rw [if_neg]; rw [size_list]; omega
        have E := Lib.hid e
        have d1 : decide ((6 : Int) < (s.size : Int)) = true := by simp; omega
        clear e hA HA
        go_wp2_with fail
        go_ret2
        exact ⟨by rw [E.out]; rfl, rfl⟩
end Go.Proofs.YtkdlipbegdiaaaaGreatDoor
