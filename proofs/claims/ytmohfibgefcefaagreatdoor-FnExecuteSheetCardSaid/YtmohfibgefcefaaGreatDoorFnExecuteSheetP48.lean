/- Words of letters: the program's and the reference's. No condition but sizes. The library's contracts laid at this dump, in plain words (written by the kit's lay-shelf.mjs and lay-plain.mjs): strings.Join, strconv.Itoa, strings.Split. For seat EX alone. -/
import Derived.Test.YtmohfibgefcefaaGreatDoorFnExecuteSheetP47
import Derived.Shelf.Strings.Builder1
import Derived.Shelf.Strings.Builder2
import Derived.Shelf.Strings.OnBuilder
import Derived.Shelf.Strings.BuilderF
import Derived.Shelf.Strings.BuilderK
import Derived.Shelf.Utf8.RuneCount
import Derived.Shelf.Strings.Builder2Cap
import Derived.Shelf.Strconv.Itoa0
import Derived.Shelf.Strconv.Itoa1
import Derived.Shelf.LaysM
import Derived.Shelf.Strconv.Itoa2
import Derived.Shelf.Strconv.Itoa3
import Derived.Shelf.Strings.Search1
import Derived.Shelf.Strings.Search2
import Derived.Shelf.Strings.Search3
import Derived.Shelf.Strings.Count
import Derived.Shelf.Strings.Shaped
import Derived.Shelf.Strings.Split
import Derived.Shelf.Strings.SplitShaped
import Derived.Shelf.Unicode.Decode
import Derived.Shelf.Strings.RuneCount
import Derived.Shelf.Strings.Explode
import Derived.Shelf.Unicode.DecodeSlow
import Derived.Shelf.Unicode.DecodeAny
import Derived.Test.YtmohfibgefcefaaGreatDoorRows
namespace Go.Proofs.YtmohfibgefcefaaGreatDoor
open Go.RowKit

/-- a letter that folds the width -/
def wideB (c : UInt8) : Bool := decide (c = 82) || decide (c = 76) || decide (c = 114) || decide (c = 108)
/-- the middle crease of a letter -/
def midB (c : UInt8) : UInt8 := if 97 ≤ c.toNat then 77 else 86
/-- one letter folded ahead of a word -/
def wof1 (c : UInt8) (w : Tx) : Tx := if c = 82 ∨ c = 114 then w ++ midB c :: othL w else othL w ++ midB c :: w
/-- the word of a text of letters -/
def wof : Tx → Tx
  | [] => []
  | c :: r => wof1 c (wof r)
theorem wof1_len (c : UInt8) (w : Tx) : (wof1 c w).length = 2 * w.length + 1 := by
  unfold wof1
  split <;> simp [othL_len] <;> omega
theorem wof_len (l : Tx) : (wof l).length + 1 = 2 ^ l.length := by
  induction l with
  | nil => rfl
  | cons c r ih =>
    show (wof1 c (wof r)).length + 1 = _
    rw [wof1_len, List.length_cons, Nat.pow_succ]; omega
theorem wof_short {l : Tx} (h : l.length ≤ 6) : (wof l).length ≤ 63 := by
  have h1 := wof_len l
  have h2 : 2 ^ l.length ≤ 2 ^ 6 := Nat.pow_le_pow_right (by omega) h
  have h3 : (2 : Nat) ^ 6 = 64 := rfl
  omega
/-- the answer of WordOf -/
def wofO (s : Tx) : Option Tx := if s.length ≤ 6 ∧ s.all wideB = true then some (wof s) else none
theorem wide_cases {c : UInt8} (h : wideB c = true) : c = 82 ∨ c = 76 ∨ c = 114 ∨ c = 108 := by
  unfold wideB at h
  simp only [Bool.or_eq_true, decide_eq_true_eq] at h
  rcases h with ((h | h) | h) | h
  · exact Or.inl h
  · exact Or.inr (Or.inl h)
  · exact Or.inr (Or.inr (Or.inl h))
  · exact Or.inr (Or.inr (Or.inr h))
theorem wof1_R (w : Tx) : wof1 82 w = w ++ 86 :: othL w := rfl
theorem wof1_r (w : Tx) : wof1 114 w = w ++ 77 :: othL w := rfl
theorem wof1_L (w : Tx) : wof1 76 w = othL w ++ 86 :: w := rfl
theorem wof1_l (w : Tx) : wof1 108 w = othL w ++ 77 :: w := rfl

set_option maxHeartbeats 1000000 in
theorem impl_foldingB (s : ByteArray) (m : UInt8) (g : Nat) (w : World) (hs : s.size ≤ 100) (hg : w.cell? ⟨g, 0, none⟩ = some (.string (bts [m]))) (hgl : g < w.heap.size) :
    Calls Tryz.prog 75 #[.string s, .pointer (some ⟨g, 0, none⟩)] w fun e w' => e = .returned (.string (bts (othL s.data.toList ++ m :: s.data.toList))) ∧ Below w.heap.size w w' := by
  have ho : (othL s.data.toList).length = s.size := by rw [othL_len, size_list]
  obtain ⟨t, ht⟩ : ∃ t, t = bts (othL s.data.toList) := ⟨_, rfl⟩
  have hts : t.size = s.size := by rw [ht]; show (List.toArray _).size = _; simp [ho]
  have a1 : ∀ W, (Op.stringOp .add t (bts [m])).run Tryz.prog W = .ok (.string (t ++ bts [m])) W := fun W => run_string_add_sum W _ _ (by show t.size + 1 ≤ _; omega)
  have hs1 : (t ++ bts [m]).size = s.size + 1 := by rw [ByteArray.size_append, hts]; rfl
  have a2 : ∀ W, (Op.stringOp .add (t ++ bts [m]) s).run Tryz.prog W = .ok (.string (t ++ bts [m] ++ s)) W := fun W => run_string_add_sum W _ _ (by rw [hs1]; omega)
  have hr : t ++ bts [m] ++ s = bts (othL s.data.toList ++ m :: s.data.toList) := by
    rw [ht]
    have e : s = bts s.data.toList := rfl
    rw [e]
    show bts _ ++ bts _ ++ bts _ = _
    rw [ByteArray.mk_append_mk, ByteArray.mk_append_mk]
    congr 1
    simp
  have HT := Lib.hid ht
  have HR := Lib.hid hr
  clear ho ht hts hs1 hr
  go_enter Tryz.func75, Tryz.ntmps75
  go_wp2_with fail
  go_region_held3 (fun W => W.cell? ⟨g, 0, none⟩ = some (.string (bts [m])))
    (first | exact hg | exact (hbx.cell (p := ⟨g, 0, none⟩) (by simpa using hgl)).trans hg)
    ((go_simp; go_at_call 73; refine (impl_otherSide s _ (by omega)).mono ?_; rw [← HT.out]; rintro e w1 ⟨rfl, hbx⟩))
  all_goals
    go_wp2_with fail
    go_ret
    exact ⟨by rw [HR.out]; rfl, below_from (below_drewN (Below.refl _ _) 1) hbx (Nat.le_refl _)⟩
/-- what a function that folds behind is -/
def FoldW (w : World) (m : UInt8) (v : Value) (g : Nat) : Prop := v = .func (.func 75) #[] #[.pointer (some ⟨g, 0, none⟩)] ∧ g < w.heap.size ∧ w.cell? ⟨g, 0, none⟩ = some (.string (bts [m]))
set_option maxHeartbeats 400000 in
theorem impl_behind (m : UInt8) (w : World) :
    Calls Tryz.prog 74 #[.string (bts [m])] w fun e w' => (∃ v g, e = .returned v ∧ FoldW w' m v g) ∧ Below w.heap.size w w' := by
  go_enter Tryz.func74, Tryz.ntmps74
  go_wp2_with fail
  go_ret
  exact ⟨⟨_, w.heap.size, rfl, rfl, by simp, by simp⟩, (Below.refl _ _).alloc (Nat.le_refl _) _⟩
set_option maxHeartbeats 400000 in
theorem impl_foldL (w : World) :
    Calls Tryz.prog 35 #[.int .u8 76] w fun e w' => (∃ v g, e = .returned v ∧ FoldW w' 86 v g) ∧ Below w.heap.size w w' := by
  go_enter Tryz.func35, Tryz.ntmps35
  go_wp2_with fail
  refine (impl_behind 86 w).mono ?_
  rintro e w1 ⟨⟨v, g, rfl, hv⟩, hb⟩
  go_wp2_with fail
  go_ret
  exact ⟨⟨_, g, rfl, hv⟩, hb⟩
set_option maxHeartbeats 400000 in
theorem impl_foldl (w : World) :
    Calls Tryz.prog 35 #[.int .u8 108] w fun e w' => (∃ v g, e = .returned v ∧ FoldW w' 77 v g) ∧ Below w.heap.size w w' := by
  go_enter Tryz.func35, Tryz.ntmps35
  go_wp2_with fail
  refine (impl_behind 77 w).mono ?_
  rintro e w1 ⟨⟨v, g, rfl, hv⟩, hb⟩
  go_wp2_with fail
  go_ret
  exact ⟨⟨_, g, rfl, hv⟩, hb⟩
set_option maxHeartbeats 400000 in
theorem impl_foldNo (c : Nat) (h1 : c ≠ 82) (h2 : c ≠ 76) (h3 : c ≠ 114) (h4 : c ≠ 108) (w : World) :
    Calls Tryz.prog 35 #[.int .u8 c] w fun e w' => e = .returned .nilFunc ∧ w = w' := by
  have d1 : ((c : Int) == 82) = false := by rw [beq_eq_false_iff_ne]; omega
  have d2 : ((c : Int) == 76) = false := by rw [beq_eq_false_iff_ne]; omega
  have d3 : ((c : Int) == 114) = false := by rw [beq_eq_false_iff_ne]; omega
  have d4 : ((c : Int) == 108) = false := by rw [beq_eq_false_iff_ne]; omega
  go_enter Tryz.func35, Tryz.ntmps35
  go_wp2_with fail
  go_ret
  exact ⟨rfl, rfl⟩
/-- a function that folds by the letter c -/
def FoldC (w : World) (c : UInt8) (v : Value) : Prop := ∃ k g, v = .func (.func k) #[] #[.pointer (some ⟨g, 0, none⟩)] ∧ (k = 72 ∨ k = 75) ∧ ∀ (s : ByteArray) (W : World), s.size ≤ 100 → Below w.heap.size w W → Calls Tryz.prog k #[.string s, .pointer (some ⟨g, 0, none⟩)] W fun e w' => e = .returned (.string (bts (wof1 c s.data.toList))) ∧ Below W.heap.size W w'
set_option maxRecDepth 100000 in
theorem func_nil (f : Fn) (a b : Array Value) (W : World) : (binOp .eql 33 (.func f a b) .nilFunc).run Tryz.prog W = .ok (.bool false) W := by rfl
set_option maxRecDepth 100000 in
theorem nil_nil (W : World) : (binOp .eql 33 .nilFunc .nilFunc).run Tryz.prog W = .ok (.bool true) W := by rfl
theorem impl_foldingOf (c : UInt8) (h : wideB c = true) (w : World) :
    Calls Tryz.prog 35 #[.int .u8 (c.toNat : Int)] w fun e w' => (∃ v, e = .returned v ∧ FoldC w' c v) ∧ Below w.heap.size w w' := by
  rcases wide_cases h with rfl | rfl | rfl | rfl
  · refine (impl_foldR w).mono ?_
    rintro e w1 ⟨⟨v, g, rfl, rfl, hg, hc⟩, hb⟩
    exact ⟨⟨_, rfl, _, g, rfl, Or.inl rfl, fun s W hs hW => impl_folding s 86 g W hs ((hW.cell (p := ⟨g, 0, none⟩) hg).trans hc) (Nat.lt_of_lt_of_le hg hW.size)⟩, hb⟩
  · refine (impl_foldL w).mono ?_
    rintro e w1 ⟨⟨v, g, rfl, rfl, hg, hc⟩, hb⟩
    exact ⟨⟨_, rfl, _, g, rfl, Or.inr rfl, fun s W hs hW => impl_foldingB s 86 g W hs ((hW.cell (p := ⟨g, 0, none⟩) hg).trans hc) (Nat.lt_of_lt_of_le hg hW.size)⟩, hb⟩
  · refine (impl_foldr w).mono ?_
    rintro e w1 ⟨⟨v, g, rfl, rfl, hg, hc⟩, hb⟩
    exact ⟨⟨_, rfl, _, g, rfl, Or.inl rfl, fun s W hs hW => impl_folding s 77 g W hs ((hW.cell (p := ⟨g, 0, none⟩) hg).trans hc) (Nat.lt_of_lt_of_le hg hW.size)⟩, hb⟩
  · refine (impl_foldl w).mono ?_
    rintro e w1 ⟨⟨v, g, rfl, rfl, hg, hc⟩, hb⟩
    exact ⟨⟨_, rfl, _, g, rfl, Or.inr rfl, fun s W hs hW => impl_foldingB s 77 g W hs ((hW.cell (p := ⟨g, 0, none⟩) hg).trans hc) (Nat.lt_of_lt_of_le hg hW.size)⟩, hb⟩
set_option maxHeartbeats 1000000 in
set_option maxRecDepth 100000 in
theorem impl_WordOf (s : ByteArray) (w : World) (hs : s.size ≤ 1000) :
    Calls Tryz.prog 12 #[.string s] w fun e w' => e = .returned (.tuple #[.string (bts ((wofO s.data.toList).getD [])), .bool (wofO s.data.toList).isSome]) ∧ Below w.heap.size w w' := by
  by_cases h6 : s.size ≤ 6
  · have h1000 : s.size ≤ 1000 := hs
    have e0 : wof (s.data.toList.drop s.size) = [] := by rw [List.drop_of_length_le (by rw [size_list]; exact Nat.le_refl _)]; rfl
    have HA0 : Hid ((s.data.toList.drop s.size).all wideB = true) := by show _ = _; rw [List.drop_of_length_le (by rw [size_list]; exact Nat.le_refl _)]; rfl
    have kw0 : IntKind.i64.wrap ((s.size : Int) - 1) = (s.size : Int) - 1 := IntWalk.i64_in _ (by omega)
    have E0 := Lib.hid e0
    clear e0
    go_enter Tryz.func12, Tryz.ntmps12
    go_wp2_with fail
    go_loopg [4, 5, 6] (s.size + 1) (fun gg s4 s5 s6 wr => ∃ (j : Nat) (z : Int), s6 = s6 ∧ j ≤ s.size ∧ z + 1 = (j : Int) ∧ s5 = .int .i64 z ∧ s4 = .string (bts (wof (s.data.toList.drop j))) ∧ j < gg ∧ Hid ((s.data.toList.drop j).all wideB = true) ∧ Hid (Below w.heap.size w wr))
    case atStart => exact ⟨s.size, (s.size : Int) - 1, rfl, Nat.le_refl _, by omega, rfl, by rw [E0.out], by omega, HA0, Below.refl _ _⟩
    case round =>
      clear HA0 E0 kw0
      obtain ⟨j, z, _, hj, hz, rfl, rfl, hg, HA, HB⟩ := hrel
      cases gk with
      | zero => omega
      | succ g1 =>
      by_cases h0 : j = 0
      · subst h0
        obtain rfl : z = -1 := by omega
        have hA := HA.out
        rw [List.drop_zero] at hA ⊢
        have e : wofO s.data.toList = some (wof s.data.toList) := by unfold wofO; rw [if_pos ⟨by rw [size_list]; exact h6, hA⟩]
        have E := Lib.hid e
        clear e hA HA
        go_wp2_with fail
        go_ret2
        exact ⟨by rw [E.out]; rfl, HB.out⟩
      · obtain ⟨k, rfl⟩ : ∃ k, j = k + 1 := ⟨j - 1, by omega⟩
        obtain rfl : z = (k : Int) := by omega
        have hk : k < s.size := by omega
        have k0 : (0 : Int) ≤ (k : Int) := by omega
        have k1 : (k : Int) < (s.size : Int) := by omega
        have kw : IntKind.i64.wrap ((k : Int) - 1) = (k : Int) - 1 := IntWalk.i64_in _ (by omega)
        have hd := byte_drop hk
        cases hw : wideB s[k] with
        | true =>
          obtain ⟨x, hx⟩ : ∃ x, x = wof (s.data.toList.drop (k + 1)) := ⟨_, rfl⟩
          have hxs : (bts x).size ≤ 100 := by
            show (List.toArray x).size ≤ 100
            have := wof_short (l := s.data.toList.drop (k + 1)) (by rw [List.length_drop, size_list]; omega)
            rw [List.size_toArray, hx]; omega
          have he : wof (s.data.toList.drop k) = wof1 s[k] x := by rw [hd, hx]; rfl
          have HA2 : Hid ((s.data.toList.drop k).all wideB = true) := by show _ = _; rw [hd, List.all_cons, hw, HA.out]; rfl
          have HE := Lib.hid he
          have HF := Lib.hid (fun W : World => impl_foldingOf s[k] hw W)
          rw [← hx]
          clear hd hw hx he HA
          go_wp2_with fail
          refine (HF.out wr).mono ?_
          rintro e w1 ⟨⟨v, rfl, kf, g, rfl, hk2, hF⟩, hb1⟩
          have HG := Lib.hid (hF (bts x) w1 hxs (Below.refl _ _))
          have HB1 := Lib.hid (below_from HB.out hb1 HB.out.size)
          clear hF hb1 HF
          rcases hk2 with rfl | rfl
          all_goals
            go_wp2_with fail
            rw [func_nil]
            go_wp2_with fail
            refine HG.out.mono ?_
            rintro e w2 ⟨rfl, hb2⟩
            have HB2 := Lib.hid (below_from HB1.out hb2 HB1.out.size)
            clear hb2 HG
            go_wp2_with fail
            go_roundg g1
            case measure => omega
            case rel => exact ⟨k, (k : Int) - 1, trivial, by omega, by omega, by go_num, by rw [HE.out], by omega, HA2, HB2⟩
        | false =>
          have e : wofO s.data.toList = none := by
            unfold wofO
            rw [if_neg]
            intro hh
            have hm : s[k] ∈ s.data.toList := by
              have : s[k] ∈ s.data.toList.drop k := by rw [hd]; exact List.mem_cons_self
              exact List.mem_of_mem_drop this
            have := List.all_eq_true.1 hh.2 _ hm
            rw [hw] at this; cases this
          have E := Lib.hid e
          have hn : s[k] ≠ 82 ∧ s[k] ≠ 76 ∧ s[k] ≠ 114 ∧ s[k] ≠ 108 := by
            unfold wideB at hw
            simp only [Bool.or_eq_false_iff, decide_eq_false_iff_not] at hw
            exact ⟨hw.1.1.1, hw.1.1.2, hw.1.2, hw.2⟩
          have HF := Lib.hid (fun W : World => impl_foldNo s[k].toNat (fun e => hn.1 (UInt8.toNat_inj.1 (by rw [e]; rfl))) (fun e => hn.2.1 (UInt8.toNat_inj.1 (by rw [e]; rfl))) (fun e => hn.2.2.1 (UInt8.toNat_inj.1 (by rw [e]; rfl))) (fun e => hn.2.2.2 (UInt8.toNat_inj.1 (by rw [e]; rfl))) W)
          clear e hd hw hn HA
          go_wp2_with fail
          refine (HF.out wr).mono ?_
          rintro e _ ⟨rfl, rfl⟩
          go_wp2_with fail
          rw [nil_nil]
          go_wp2_with fail
          go_ret2
          exact ⟨by rw [E.out]; rfl, HB.out⟩
  · have e : wofO s.data.toList = none := by unfold wofO; rw [if_neg]; rw [size_list]; omega
    have E := Lib.hid e
    have d1 : decide ((6 : Int) < (s.size : Int)) = true := by simp; omega
    clear e
    go_enter Tryz.func12, Tryz.ntmps12
    go_wp2_with fail
    go_ret2
    exact ⟨by rw [E.out]; rfl, Below.refl _ _⟩
set_option maxHeartbeats 400000 in
theorem spec_l4Wide (c : UInt8) (w : World) :
    Calls Tryz.prog 67 #[.int .u8 (c.toNat : Int)] w fun e w' => e = .returned (.bool (wideB c)) ∧ w = w' := by
  cases hw : wideB c with
  | true =>
    rcases wide_cases hw with rfl | rfl | rfl | rfl
    all_goals
      go_enter Tryz.func67, Tryz.ntmps67
      go_wp2_with fail
      go_ret
      exact ⟨rfl, rfl⟩
  | false =>
    have hn : c ≠ 82 ∧ c ≠ 76 ∧ c ≠ 114 ∧ c ≠ 108 := by
      unfold wideB at hw
      simp only [Bool.or_eq_false_iff, decide_eq_false_iff_not] at hw
      exact ⟨hw.1.1.1, hw.1.1.2, hw.1.2, hw.2⟩
    obtain ⟨n, e⟩ : ∃ n, n = c.toNat := ⟨_, rfl⟩
    have n1 : n ≠ 82 := fun h => hn.1 (UInt8.toNat_inj.1 (by rw [← e, h]; rfl))
    have n2 : n ≠ 76 := fun h => hn.2.1 (UInt8.toNat_inj.1 (by rw [← e, h]; rfl))
    have n3 : n ≠ 114 := fun h => hn.2.2.1 (UInt8.toNat_inj.1 (by rw [← e, h]; rfl))
    have n4 : n ≠ 108 := fun h => hn.2.2.2 (UInt8.toNat_inj.1 (by rw [← e, h]; rfl))
    rw [← e]
    clear hn e hw
    have d1 : ((n : Int) == 82) = false := by rw [beq_eq_false_iff_ne]; omega
    have d2 : ((n : Int) == 76) = false := by rw [beq_eq_false_iff_ne]; omega
    have d3 : ((n : Int) == 114) = false := by rw [beq_eq_false_iff_ne]; omega
    have d4 : ((n : Int) == 108) = false := by rw [beq_eq_false_iff_ne]; omega
    go_enter Tryz.func67, Tryz.ntmps67
    go_wp2_with fail
    go_ret
    exact ⟨rfl, rfl⟩
end Go.Proofs.YtmohfibgefcefaaGreatDoor
namespace Go.Proofs
open Go.Shelf
def Tryz.lays156_ren : Go.Shelf.Ren := ⟨fun | 156 => 157 | 165 => 165 | 166 => 166 | 169 => 167 | 240 => 170 | 241 => 171 | 276 => 172 | 277 => 173 | n => n, fun | 31 => 69 | 9 => 9 | 3 => 3 | 4 => 4 | 0 => 0 | 20 => 20 | 72 => 186 | 76 => 189 | 70 => 184 | 37 => 22 | 75 => 188 | 127 => 193 | 164 => 196 | 5 => 5 | 80 => 191 | n => n, fun | n => n⟩
theorem Tryz.lays156 : Go.Proofs.Lays.n156 Tryz.prog Tryz.lays156_ren := {
  mixed := by kernel_rfl
  f156 := Tryz.func157.trans (congrArg some (by kernel_rfl))
  f165 := Tryz.func165.trans (congrArg some (by kernel_rfl))
  f166 := Tryz.func166.trans (congrArg some (by kernel_rfl))
  f169 := Tryz.func167.trans (congrArg some (by kernel_rfl))
  f240 := Tryz.func170.trans (congrArg some (by kernel_rfl))
  f241 := Tryz.func171.trans (congrArg some (by kernel_rfl))
  f276 := Tryz.func172.trans (congrArg some (by kernel_rfl))
  f277 := Tryz.func173.trans (congrArg some (by kernel_rfl))
  t0 := Tryz.underlying0
  a0 := Tryz.isAgg0
  z0 := Tryz.sizeOf0
  v0 := Tryz.zeroValue0
  t3 := Tryz.underlying3
  a3 := Tryz.isAgg3
  z3 := Tryz.sizeOf3
  v3 := Tryz.zeroValue3
  t4 := Tryz.underlying4
  a4 := Tryz.isAgg4
  z4 := Tryz.sizeOf4
  v4 := Tryz.zeroValue4
  t9 := Tryz.underlying9
  a9 := Tryz.isAgg9
  z9 := Tryz.sizeOf9
  v9 := Tryz.zeroValue9
  t20 := Tryz.underlying20
  a20 := Tryz.isAgg20
  z20 := Tryz.sizeOf20
  v20 := Tryz.zeroValue20
  t31 := Tryz.underlying69
  a31 := Tryz.isAgg69
  z31 := Tryz.sizeOf69
  v31 := Tryz.zeroValue69
  t37 := Tryz.underlying22
  a37 := Tryz.isAgg22
  z37 := Tryz.sizeOf22
  v37 := Tryz.zeroValue22
  t70 := Tryz.underlying184
  a70 := Tryz.isAgg184
  z70 := Tryz.sizeOf184
  v70 := Tryz.zeroValue184
  t72 := Tryz.underlying186
  a72 := Tryz.isAgg186
  z72 := Tryz.sizeOf186
  v72 := Tryz.zeroValue186
  t75 := Tryz.underlying188
  a75 := Tryz.isAgg188
  z75 := Tryz.sizeOf188
  v75 := Tryz.zeroValue188
  t76 := Tryz.underlying189
  a76 := Tryz.isAgg189
  z76 := Tryz.sizeOf189
  v76 := Tryz.zeroValue189
  t127 := Tryz.underlying193
  a127 := Tryz.isAgg193
  z127 := Tryz.sizeOf193
  v127 := Tryz.zeroValue193
  t164 := Tryz.underlying196
  a164 := Tryz.isAgg196
  z164 := Tryz.sizeOf196
  v164 := Tryz.zeroValue196 }
theorem Tryz.Builder_Extra_156 : Builder.Extra Tryz.prog Tryz.lays156_ren := {
  sizeBuilder := by kernel_rfl
  liesBuilder := by kernel_rfl
  t5 := Tryz.underlying5
  a5 := Tryz.isAgg5
  z5 := Tryz.sizeOf5
  v5 := Tryz.zeroValue5
  infoByte := by kernel_rfl
  cellsByte := by kernel_rfl
  sizeByte := by kernel_rfl
  neB5 := by decide }
open Go.RowKit in
/-- No element: the empty string; the world is as it was. (Whatever the slice's address and capacity: a nil slice too.) (LAID: no walk: one application.) -/
theorem Tryz.strings_Join_none (a : Option Addr) (c : Nat) (sep : ByteArray) (w : World) :
    Calls Tryz.prog 157 #[.slice a 0 c, .string sep] w fun e w' => e = .returned (.string ⟨#[]⟩) ∧ w' = w := Any.strings_Join_none Tryz.lays156 Tryz.Builder_Extra_156 a c sep w
open Go.RowKit in
/-- strings.Join: "Join concatenates the elements of its first argument to create a single string. The separator string sep is placed between elements in the resulting string.": HOWEVER MANY ELEMENTS. Below the heap's end the world is as it was. (LAID: no walk: one application.) -/
theorem Tryz.strings_Join (bk o c : Nat) (xs : List ByteArray) (sep : ByteArray) (w : World) (hcells : ∀ (j : Nat) x, xs[j]? = some x → w.cell? ⟨bk, o + j, none⟩ = some (.string x)) (hbk : bk < w.heap.size) (hN : xs.length ≤ 140737488355328) (hcap : xs.length ≤ c) (hlen : (Lib.join (xs.map (·.data.toList)) sep.data.toList).length ≤ 140737488355328) :
    Calls Tryz.prog 157 #[.slice (some ⟨bk, o, none⟩) xs.length c, .string sep] w fun e w' => e = .returned (.string ⟨(Lib.join (xs.map (·.data.toList)) sep.data.toList).toArray⟩) ∧ Below w.heap.size w w' := Any.strings_Join Tryz.lays156 Tryz.Builder_Extra_156 bk o c xs sep w hcells hbk hN hcap hlen
def Tryz.laysM171_ren : Go.Shelf.Ren := ⟨fun | 171 => 38 | 243 => 79 | 246 => 112 | 283 => 142 | 284 => 143 | 285 => 144 | 286 => 145 | 129 => 159 | 317 => 158 | 318 => 160 | 319 => 161 | 320 => 162 | 337 => 168 | 338 => 169 | n => n, fun | 3 => 3 | 9 => 9 | 2 => 2 | 4 => 4 | 171 => 161 | 0 => 0 | 53 => 162 | 37 => 22 | 5 => 5 | 173 => 165 | 212 => 174 | 51 => 175 | 20 => 20 | 213 => 176 | 46 => 169 | 232 => 194 | 233 => 195 | n => n, fun | 17 => 1 | 18 => 4 | 19 => 5 | n => n⟩
theorem Tryz.laysM171 : Go.Proofs.LaysM.n171 Tryz.prog Tryz.laysM171_ren := {
  mixed := by kernel_rfl
  f129 := Tryz.func159.trans (congrArg some (by kernel_rfl))
  f171 := Tryz.func38.trans (congrArg some (by kernel_rfl))
  f243 := Tryz.func79.trans (congrArg some (by kernel_rfl))
  f246 := Tryz.func112.trans (congrArg some (by kernel_rfl))
  f283 := Tryz.func142.trans (congrArg some (by kernel_rfl))
  f284 := Tryz.func143.trans (congrArg some (by kernel_rfl))
  f285 := Tryz.func144.trans (congrArg some (by kernel_rfl))
  f286 := Tryz.func145.trans (congrArg some (by kernel_rfl))
  f317 := Tryz.func158.trans (congrArg some (by kernel_rfl))
  f318 := Tryz.func160.trans (congrArg some (by kernel_rfl))
  f319 := Tryz.func161.trans (congrArg some (by kernel_rfl))
  f320 := Tryz.func162.trans (congrArg some (by kernel_rfl))
  f337 := Tryz.func168.trans (congrArg some (by kernel_rfl))
  f338 := Tryz.func169.trans (congrArg some (by kernel_rfl))
  t0 := Tryz.underlying0
  a0 := Tryz.isAgg0
  z0 := Tryz.sizeOf0
  v0 := Tryz.zeroValue0
  t2 := Tryz.underlying2
  a2 := Tryz.isAgg2
  z2 := Tryz.sizeOf2
  v2 := Tryz.zeroValue2
  t3 := Tryz.underlying3
  a3 := Tryz.isAgg3
  z3 := Tryz.sizeOf3
  v3 := Tryz.zeroValue3
  t4 := Tryz.underlying4
  a4 := Tryz.isAgg4
  z4 := Tryz.sizeOf4
  v4 := Tryz.zeroValue4
  t5 := Tryz.underlying5
  a5 := Tryz.isAgg5
  z5 := Tryz.sizeOf5
  v5 := Tryz.zeroValue5
  t9 := Tryz.underlying9
  a9 := Tryz.isAgg9
  z9 := Tryz.sizeOf9
  v9 := Tryz.zeroValue9
  t20 := Tryz.underlying20
  a20 := Tryz.isAgg20
  z20 := Tryz.sizeOf20
  v20 := Tryz.zeroValue20
  t37 := Tryz.underlying22
  a37 := Tryz.isAgg22
  z37 := Tryz.sizeOf22
  v37 := Tryz.zeroValue22
  t46 := Tryz.underlying169
  a46 := Tryz.isAgg169
  z46 := Tryz.sizeOf169
  v46 := Tryz.zeroValue169
  t51 := Tryz.underlying175
  a51 := Tryz.isAgg175
  z51 := Tryz.sizeOf175
  v51 := Tryz.zeroValue175
  t53 := Tryz.underlying162
  a53 := Tryz.isAgg162
  z53 := Tryz.sizeOf162
  v53 := Tryz.zeroValue162
  t171 := Tryz.underlying161
  a171 := Tryz.isAgg161
  z171 := Tryz.sizeOf161
  v171 := Tryz.zeroValue161
  t173 := Tryz.underlying165
  a173 := Tryz.isAgg165
  z173 := Tryz.sizeOf165
  v173 := Tryz.zeroValue165
  t212 := Tryz.underlying174
  a212 := Tryz.isAgg174
  z212 := Tryz.sizeOf174
  v212 := Tryz.zeroValue174
  t213 := Tryz.underlying176
  a213 := Tryz.isAgg176
  z213 := Tryz.sizeOf176
  t232 := Tryz.underlying194
  a232 := Tryz.isAgg194
  z232 := Tryz.sizeOf194
  v232 := Tryz.zeroValue194
  t233 := Tryz.underlying195
  a233 := Tryz.isAgg195
  z233 := Tryz.sizeOf195
  v233 := Tryz.zeroValue195
  g17 := by kernel_rfl
  g18 := by kernel_rfl
  g19 := by kernel_rfl
  i0 := by kernel_rfl
  i2 := by kernel_rfl
  i3 := by kernel_rfl
  i4 := by kernel_rfl
  i5 := by kernel_rfl
  i9 := by kernel_rfl
  i20 := by kernel_rfl
  i37 := by kernel_rfl
  i46 := by kernel_rfl
  i51 := by kernel_rfl
  i53 := by kernel_rfl
  i171 := by kernel_rfl
  i173 := by kernel_rfl
  i212 := by kernel_rfl
  i232 := by kernel_rfl
  i233 := by kernel_rfl
  m17 := by kernel_rfl
  m18 := by kernel_rfl
  m19 := by kernel_rfl }
open Go.RowKit Go.Sort Go.Lib in
/-- strconv.Itoa: "Itoa is equivalent to FormatInt(int64(i), 10).": i's DECIMAL NUMERAL ('Lib.itoa': a '-' where i is negative, then the digits), FOR EVERY int. The world behind the call: the world before it, new blocks behind the heap (the library's 'var a [24]byte'), draws. (LAID: no walk: one application.) -/
theorem Tryz.strconv_Itoa (n : Int) (h0 : -9223372036854775808 ≤ n) (h1 : n ≤ 9223372036854775807) (w : World) (htab : Lib.TabIs Tryz.prog w "internal/strconv.uint64pow10" .u64 Lib.pow10Tab) :
    Calls Tryz.prog 38 #[.int .i64 n] w fun e w' => e = .returned (.string ⟨(Lib.itoa n).toArray⟩) ∧ ∃ k os, w' = grow (w.drewN k) os := Any.strconv_Itoa Tryz.laysM171 n h0 h1 w htab
def Tryz.lays171_ren : Go.Shelf.Ren := ⟨fun | 171 => 38 | 243 => 79 | 246 => 112 | 283 => 142 | 284 => 143 | 285 => 144 | 286 => 145 | 129 => 159 | 317 => 158 | 318 => 160 | 319 => 161 | 320 => 162 | 337 => 168 | 338 => 169 | n => n, fun | 3 => 3 | 9 => 9 | 2 => 2 | 4 => 4 | 171 => 161 | 0 => 0 | 53 => 162 | 37 => 22 | 5 => 5 | 173 => 165 | 212 => 174 | 51 => 175 | 20 => 20 | 213 => 176 | 46 => 169 | 232 => 194 | 233 => 195 | n => n, fun | 17 => 1 | 18 => 4 | 19 => 5 | n => n⟩
theorem Tryz.lays171 : Go.Proofs.Lays.n171 Tryz.prog Tryz.lays171_ren := {
  mixed := by kernel_rfl
  f129 := Tryz.func159.trans (congrArg some (by kernel_rfl))
  f171 := Tryz.func38.trans (congrArg some (by kernel_rfl))
  f243 := Tryz.func79.trans (congrArg some (by kernel_rfl))
  f246 := Tryz.func112.trans (congrArg some (by kernel_rfl))
  f283 := Tryz.func142.trans (congrArg some (by kernel_rfl))
  f284 := Tryz.func143.trans (congrArg some (by kernel_rfl))
  f285 := Tryz.func144.trans (congrArg some (by kernel_rfl))
  f286 := Tryz.func145.trans (congrArg some (by kernel_rfl))
  f317 := Tryz.func158.trans (congrArg some (by kernel_rfl))
  f318 := Tryz.func160.trans (congrArg some (by kernel_rfl))
  f319 := Tryz.func161.trans (congrArg some (by kernel_rfl))
  f320 := Tryz.func162.trans (congrArg some (by kernel_rfl))
  f337 := Tryz.func168.trans (congrArg some (by kernel_rfl))
  f338 := Tryz.func169.trans (congrArg some (by kernel_rfl))
  t0 := Tryz.underlying0
  a0 := Tryz.isAgg0
  z0 := Tryz.sizeOf0
  v0 := Tryz.zeroValue0
  t2 := Tryz.underlying2
  a2 := Tryz.isAgg2
  z2 := Tryz.sizeOf2
  v2 := Tryz.zeroValue2
  t3 := Tryz.underlying3
  a3 := Tryz.isAgg3
  z3 := Tryz.sizeOf3
  v3 := Tryz.zeroValue3
  t4 := Tryz.underlying4
  a4 := Tryz.isAgg4
  z4 := Tryz.sizeOf4
  v4 := Tryz.zeroValue4
  t5 := Tryz.underlying5
  a5 := Tryz.isAgg5
  z5 := Tryz.sizeOf5
  v5 := Tryz.zeroValue5
  t9 := Tryz.underlying9
  a9 := Tryz.isAgg9
  z9 := Tryz.sizeOf9
  v9 := Tryz.zeroValue9
  t20 := Tryz.underlying20
  a20 := Tryz.isAgg20
  z20 := Tryz.sizeOf20
  v20 := Tryz.zeroValue20
  t37 := Tryz.underlying22
  a37 := Tryz.isAgg22
  z37 := Tryz.sizeOf22
  v37 := Tryz.zeroValue22
  t46 := Tryz.underlying169
  a46 := Tryz.isAgg169
  z46 := Tryz.sizeOf169
  v46 := Tryz.zeroValue169
  t51 := Tryz.underlying175
  a51 := Tryz.isAgg175
  z51 := Tryz.sizeOf175
  v51 := Tryz.zeroValue175
  t53 := Tryz.underlying162
  a53 := Tryz.isAgg162
  z53 := Tryz.sizeOf162
  v53 := Tryz.zeroValue162
  t171 := Tryz.underlying161
  a171 := Tryz.isAgg161
  z171 := Tryz.sizeOf161
  v171 := Tryz.zeroValue161
  t173 := Tryz.underlying165
  a173 := Tryz.isAgg165
  z173 := Tryz.sizeOf165
  v173 := Tryz.zeroValue165
  t212 := Tryz.underlying174
  a212 := Tryz.isAgg174
  z212 := Tryz.sizeOf174
  v212 := Tryz.zeroValue174
  t213 := Tryz.underlying176
  a213 := Tryz.isAgg176
  z213 := Tryz.sizeOf176
  t232 := Tryz.underlying194
  a232 := Tryz.isAgg194
  z232 := Tryz.sizeOf194
  v232 := Tryz.zeroValue194
  t233 := Tryz.underlying195
  a233 := Tryz.isAgg195
  z233 := Tryz.sizeOf195
  v233 := Tryz.zeroValue195
  g17 := by kernel_rfl
  g18 := by kernel_rfl
  g19 := by kernel_rfl }
open Go.RowKit Go.Sort Go.Lib in
/-- THE ROAD WITHOUT THE TABLE: 0 <= i < 100: NO PREMISE ON THE WORLD, AND THE WORLD IS AS IT WAS: a row that keeps its argument in that range need list no table ('laid = []'). (LAID: no walk: one application.) -/
theorem Tryz.strconv_Itoa_small (i : Nat) (hi : i < 100) (w : World) :
    Calls Tryz.prog 38 #[.int .i64 i] w fun e w' => e = .returned (.string ⟨(Lib.decDigits i).toArray⟩) ∧ w' = w := Any.strconv_Itoa_small Tryz.lays171 i hi w
def Tryz.lays146_ren : Go.Shelf.Ren := ⟨fun | 146 => 36 | 221 => 76 | 268 => 108 | 138 => 109 | 143 => 110 | 195 => 128 | 197 => 129 | 218 => 130 | 219 => 131 | 260 => 149 | 217 => 150 | 225 => 151 | 224 => 152 | 267 => 153 | 266 => 163 | 314 => 164 | n => n, fun | 9 => 9 | 31 => 69 | 3 => 3 | 4 => 4 | 0 => 0 | 105 => 157 | 21 => 21 | 5 => 5 | 46 => 169 | 119 => 178 | 139 => 181 | 138 => 180 | 146 => 182 | 51 => 175 | n => n, fun | 1 => 0 | 3 => 2 | 4 => 3 | n => n⟩
theorem Tryz.lays146 : Go.Proofs.Lays.n146 Tryz.prog Tryz.lays146_ren := {
  mixed := by kernel_rfl
  f138 := Tryz.func109.trans (congrArg some (by kernel_rfl))
  f143 := Tryz.func110.trans (congrArg some (by kernel_rfl))
  f146 := Tryz.func36.trans (congrArg some (by kernel_rfl))
  f195 := Tryz.func128.trans (congrArg some (by kernel_rfl))
  f197 := Tryz.func129.trans (congrArg some (by kernel_rfl))
  f217 := Tryz.func150.trans (congrArg some (by kernel_rfl))
  f218 := Tryz.func130.trans (congrArg some (by kernel_rfl))
  f219 := Tryz.func131.trans (congrArg some (by kernel_rfl))
  f221 := Tryz.func76.trans (congrArg some (by kernel_rfl))
  f224 := Tryz.func152.trans (congrArg some (by kernel_rfl))
  f225 := Tryz.func151.trans (congrArg some (by kernel_rfl))
  f260 := Tryz.func149.trans (congrArg some (by kernel_rfl))
  f266 := Tryz.func163.trans (congrArg some (by kernel_rfl))
  f267 := Tryz.func153.trans (congrArg some (by kernel_rfl))
  f268 := Tryz.func108.trans (congrArg some (by kernel_rfl))
  f314 := Tryz.func164.trans (congrArg some (by kernel_rfl))
  t0 := Tryz.underlying0
  a0 := Tryz.isAgg0
  z0 := Tryz.sizeOf0
  v0 := Tryz.zeroValue0
  t3 := Tryz.underlying3
  a3 := Tryz.isAgg3
  z3 := Tryz.sizeOf3
  v3 := Tryz.zeroValue3
  t4 := Tryz.underlying4
  a4 := Tryz.isAgg4
  z4 := Tryz.sizeOf4
  v4 := Tryz.zeroValue4
  t5 := Tryz.underlying5
  a5 := Tryz.isAgg5
  z5 := Tryz.sizeOf5
  v5 := Tryz.zeroValue5
  t9 := Tryz.underlying9
  a9 := Tryz.isAgg9
  z9 := Tryz.sizeOf9
  v9 := Tryz.zeroValue9
  t21 := Tryz.underlying21
  a21 := Tryz.isAgg21
  z21 := Tryz.sizeOf21
  v21 := Tryz.zeroValue21
  t31 := Tryz.underlying69
  a31 := Tryz.isAgg69
  z31 := Tryz.sizeOf69
  v31 := Tryz.zeroValue69
  t46 := Tryz.underlying169
  a46 := Tryz.isAgg169
  z46 := Tryz.sizeOf169
  v46 := Tryz.zeroValue169
  t51 := Tryz.underlying175
  a51 := Tryz.isAgg175
  z51 := Tryz.sizeOf175
  v51 := Tryz.zeroValue175
  t105 := Tryz.underlying157
  a105 := Tryz.isAgg157
  z105 := Tryz.sizeOf157
  v105 := Tryz.zeroValue157
  t119 := Tryz.underlying178
  a119 := Tryz.isAgg178
  z119 := Tryz.sizeOf178
  t138 := Tryz.underlying180
  a138 := Tryz.isAgg180
  z138 := Tryz.sizeOf180
  v138 := Tryz.zeroValue180
  t139 := Tryz.underlying181
  a139 := Tryz.isAgg181
  z139 := Tryz.sizeOf181
  v139 := Tryz.zeroValue181
  t146 := Tryz.underlying182
  a146 := Tryz.isAgg182
  z146 := Tryz.sizeOf182
  v146 := Tryz.zeroValue182
  g1 := by kernel_rfl
  g3 := by kernel_rfl
  g4 := by kernel_rfl }
open Go.RowKit Go.Lib in
/-- strings.Split. (LAID: no walk: one application.) -/
theorem Tryz.strings_Split (s sep : ByteArray) (m : Int) (w : World) (hs : s.size < 4294967281) (hm : w.cell? ⟨0, 0, none⟩ = some (.int .i64 m)) (h1 : 1 ≤ sep.size) :
    Calls Tryz.prog 36 #[.string s, .string sep] w fun e w' =>
      e = .returned (.slice (some ⟨w.heap.size, 0, none⟩) (Lib.countB s sep + 1) (Lib.countB s sep + 1)) ∧ w' = w.alloc (.cells ((Lib.splitB sep 0 (Lib.countB s sep) s).map Value.string).toArray 9) := Any.strings_Split Tryz.lays146 (by kernel_rfl) s sep m w hs hm h1
end Go.Proofs
