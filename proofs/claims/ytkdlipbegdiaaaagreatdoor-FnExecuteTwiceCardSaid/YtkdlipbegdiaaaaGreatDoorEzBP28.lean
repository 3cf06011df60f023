/- Strips: is there one, and the numbers of its right layers, the program's. No condition but sizes. The right layers of a ring, as the program counts them, against its crimps. No condition. Stacks of stamps: the program's way (one stamp more put in) and the reference's (all orders), counted. No program, no condition. Stamps: the program's tests of a stack. No condition but sizes. Stacks of stamps, counted both ways: the same numbers. No program, no condition. Stacks of seven stamps, counted the reference's way. No program, no condition. Parts laid flat, the reference's way: places, levels. No condition but sizes. -/
import Derived.Test.YtkdlipbegdiaaaaGreatDoorEzBP27
import Derived.Test.YtkdlipbegdiaaaaGreatDoorEzBP5
import Derived.Test.YtkdlipbegdiaaaaGreatDoorEzBP7
import Derived.Test.YtkdlipbegdiaaaaGreatDoorEzBP12
import Derived.Test.YtkdlipbegdiaaaaGreatDoorEzBP11
import Derived.Test.YtkdlipbegdiaaaaGreatDoorEzBP25
import Derived.Test.YtkdlipbegdiaaaaGreatDoorEzBP26
import Derived.StillTailTactics
namespace Go.Proofs.YtkdlipbegdiaaaaGreatDoor
open Go.RowKit
/-- is it a strip -/
def svB (xs : List Int) (cs : List UInt8) : Bool := lvB xs && fvB cs ((xs.length : Int) - 1)
set_option maxHeartbeats 400000 in
theorem impl_StripValidS (A : Option Addr) (cap : Nat) (xs : List Int) (s : ByteArray) (w : World) (h : Ints w A xs) (hl : xs.length ≤ maxLen) (hs : s.size ≤ maxLen) :
    Calls Tryz.prog 20 #[.slice A xs.length cap, .string s] w fun e w' => e = .returned (.bool (svB xs s.data.toList)) ∧ w = w' := by
  have hlm := hl
  unfold maxLen at hlm
  cases hv : lvB xs with
  | false =>
    have hq : svB xs s.data.toList = false := by unfold svB; rw [hv]; rfl
    rw [hq]
    go_enter Tryz.func20, Tryz.ntmps20
    go_wp2_with fail
    refine (impl_lengthsValid A cap xs w h hl).mono ?_
    rintro e _ ⟨rfl, rfl⟩
    rw [hv]
    clear hq hv
    go_wp2_with fail
    go_ret
    exact ⟨rfl, rfl⟩
  | true =>
    have hq : svB xs s.data.toList = fvB s.data.toList ((xs.length : Int) - 1) := by unfold svB; rw [hv]; rfl
    rw [hq]
    have kw : IntKind.i64.wrap ((xs.length : Int) - 1) = (xs.length : Int) - 1 := IntWalk.i64_in _ (by omega)
    go_enter Tryz.func20, Tryz.ntmps20
    go_wp2_with fail
    refine (impl_lengthsValid A cap xs w h hl).mono ?_
    rintro e _ ⟨rfl, rfl⟩
    rw [hv]
    clear hq hv
    go_wp2_with fail
    refine (impl_FoldsValid s ((xs.length : Int) - 1) w hs).mono ?_
    rintro e _ ⟨rfl, rfl⟩
    go_wp2_with fail
    go_ret
    exact ⟨rfl, rfl⟩
set_option maxHeartbeats 400000 in
theorem spec_StripValidS (A : Option Addr) (cap : Nat) (xs : List Int) (s : ByteArray) (w : World) (h : Ints w A xs) (hl : xs.length ≤ maxLen) (hs : s.size ≤ maxLen) :
    Calls Tryz.prog 23 #[.slice A xs.length cap, .string s] w fun e w' => e = .returned (.bool (svB xs s.data.toList)) ∧ w = w' := by
  have hlm := hl
  unfold maxLen at hlm
  cases hv : lvB xs with
  | false =>
    have hq : svB xs s.data.toList = false := by unfold svB; rw [hv]; rfl
    rw [hq]
    go_enter Tryz.func23, Tryz.ntmps23
    go_wp2_with fail
    refine (spec_l2Lengths A cap xs w h hl).mono ?_
    rintro e _ ⟨rfl, rfl⟩
    rw [hv]
    clear hq hv
    go_wp2_with fail
    go_ret
    exact ⟨rfl, rfl⟩
  | true =>
    have hq : svB xs s.data.toList = fvB s.data.toList ((xs.length : Int) - 1) := by unfold svB; rw [hv]; rfl
    rw [hq]
    have kw : IntKind.i64.wrap ((xs.length : Int) - 1) = (xs.length : Int) - 1 := IntWalk.i64_in _ (by omega)
    go_enter Tryz.func23, Tryz.ntmps23
    go_wp2_with fail
    refine (spec_l2Lengths A cap xs w h hl).mono ?_
    rintro e _ ⟨rfl, rfl⟩
    rw [hv]
    clear hq hv
    go_wp2_with fail
    refine (spec_FoldsValid s ((xs.length : Int) - 1) w hs).mono ?_
    rintro e _ ⟨rfl, rfl⟩
    go_wp2_with fail
    go_ret
    exact ⟨rfl, rfl⟩
set_option maxHeartbeats 400000 in
set_option maxRecDepth 100000 in
theorem impl_StripManyS (A : Option Addr) (cap : Nat) (xs : List Int) (s : ByteArray) (w : World) (h : Ints w A xs) (hr : svB xs s.data.toList = true) :
    Calls Tryz.prog 9 #[.slice A xs.length cap, .string s] w fun e w' => e = .returned (.int .i64 (smany xs s : Nat)) ∧ Below w.heap.size w w' := by
  have hrr := hr
  unfold svB at hrr
  simp only [Bool.and_eq_true] at hrr
  obtain ⟨h1, h3⟩ := hrr
  obtain ⟨l1, l6, hx⟩ := lvB_parts h1
  have hss : (s.size : Int) = (xs.length : Int) - 1 := by have := (fvB_iff _ _).1 h3; rw [show s.data.toList.length = s.size from Array.length_toList] at this; exact this.1
  have HV := Lib.hid (impl_StripValidS A cap xs s w h (by unfold maxLen; omega) (by unfold maxLen; omega))
  have HF := Lib.hid (impl_flatStrip A cap xs s w h (by omega) (fun x hm => ⟨by have := (hx x hm).1; omega, (hx x hm).2⟩) (by omega))
  have HC := Lib.hid (fun (r : Nat) (W : World) (hF : Flat W r w.heap.size xs.length (plcL xs) (fdS xs s s.size)) => impl_count r w.heap.size xs.length (plcL xs) (fdS xs s s.size) W hF (by omega) (plcL_len xs) (by rw [fdS_len]; omega) (fdS_mem (by omega)))
  rw [hr] at HV
  have HM : Hid (smany xs s = rcount xs.length (plcL xs) (fdS xs s s.size)) := rfl
  obtain ⟨z, hz⟩ : ∃ z, z = rcount xs.length (plcL xs) (fdS xs s s.size) := ⟨_, rfl⟩
  rw [← hz] at HC HM
  clear h1 h3 hx hr h hz
  go_enter Tryz.func9, Tryz.ntmps9
  go_wp2_with fail
  refine HV.out.mono ?_
  rintro e w' ⟨rfl, rfl⟩
  go_wp2_with fail
  refine HF.out.mono ?_
  rintro e w1 ⟨r, rfl, hF, hb1⟩
  have HFF := Lib.hid (HC.out r w1 hF)
  have HB := Lib.hid hb1
  clear hF hb1 HF HC
  go_wp2_with fail
  refine HFF.out.mono ?_
  rintro e w2 ⟨rfl, hb2⟩
  have HB2 := Lib.hid (HB.out.trans (hb2.mono HB.out.size))
  clear hb2
  go_wp2_with fail
  go_ret
  exact ⟨ret_int (by rw [HM.out]), HB2.out⟩
set_option maxHeartbeats 400000 in
theorem impl_StripManyS_no (A : Option Addr) (cap : Nat) (xs : List Int) (s : ByteArray) (w : World) (h : Ints w A xs) (hl : xs.length ≤ maxLen) (hs : s.size ≤ maxLen) (hr : svB xs s.data.toList = false) :
    Calls Tryz.prog 9 #[.slice A xs.length cap, .string s] w fun e w' => e = .returned (.int .i64 (-1)) ∧ w = w' := by
  have HV := Lib.hid (impl_StripValidS A cap xs s w h hl hs)
  rw [hr] at HV
  clear hr
  go_enter Tryz.func9, Tryz.ntmps9
  go_wp2_with fail
  refine HV.out.mono ?_
  rintro e w' ⟨rfl, rfl⟩
  go_wp2_with fail
  go_ret
  exact ⟨rfl, rfl⟩
end Go.Proofs.YtkdlipbegdiaaaaGreatDoor
namespace Go.Proofs.YtkdlipbegdiaaaaGreatDoor
/-- all orders of n numbers that begin so -/
def genO (n : Nat) : Nat → List Int → List (List Int)
  | 0, xs => [xs]
  | k + 1, xs => (List.range n).flatMap fun (j : Nat) => if (j : Int) ∈ xs then [] else genO n k (xs ++ [(j : Int)])
theorem ordTo_sum (xs : List Int) (g : List Int → List (List Int)) (wt : List Int → Nat) : ∀ j, ordTo xs (fun l => ((g l).map wt).sum) j = (((List.range j).flatMap fun (j : Nat) => if (j : Int) ∈ xs then [] else g (xs ++ [(j : Int)])).map wt).sum := by
  intro j
  induction j with
  | zero => rfl
  | succ j ih =>
    rw [ordTo, ih, List.range_succ, List.flatMap_append, List.map_append, List.sum_append_nat]
    congr 1
    simp only [List.flatMap_cons, List.flatMap_nil, List.append_nil]
    split <;> simp
theorem ordSum_gen (n : Nat) (wt : List Int → Nat) : ∀ k xs, ordSum n wt k xs = ((genO n k xs).map wt).sum := by
  intro k
  induction k with
  | zero => intro xs; simp [ordSum, genO]
  | succ k ih =>
    intro xs
    have : ordSum n wt k = fun l => ((genO n k l).map wt).sum := funext ih
    rw [ordSum, this, ordTo_sum]; rfl
/-- numbers as integers -/
abbrev zs (p : List Nat) : List Int := p.map fun (k : Nat) => (k : Int)
/-- where a number stands -/
def lvNat (p : List Nat) : Nat → Nat → Nat
  | 0, _ => 0
  | k + 1, j => if gd p k = j then k else lvNat p k j
def invN (n : Nat) (p : List Nat) : List Nat := (List.range n).map (lvNat p n)
def genNat (n : Nat) : Nat → List Nat → List (List Nat)
  | 0, xs => [xs]
  | k + 1, xs => (List.range n).flatMap fun j => if xs.contains j then [] else genNat n k (xs ++ [j])
theorem gen_zs (n : Nat) : ∀ k xs, genO n k (zs xs) = (genNat n k xs).map zs := by
  intro k
  induction k with
  | zero => intro xs; simp [genO, genNat]
  | succ k ih =>
    intro xs
    unfold genO genNat
    rw [List.map_flatMap]
    congr 1
    funext j
    have hm : ((j : Int) ∈ zs xs) ↔ xs.contains j = true := by
      rw [List.contains_iff_mem, List.mem_map]
      constructor
      · rintro ⟨a, ha, e⟩
        have : a = j := by omega
        rw [← this]; exact ha
      · intro h; exact ⟨j, h, rfl⟩
    by_cases h : xs.contains j = true
    · rw [if_pos (hm.2 h), if_pos h]; rfl
    · rw [if_neg (fun h' => h (hm.1 h')), if_neg h, ← ih]
      congr 1
      simp
/-- what the kernel has looked over: every order's place list is an order, whose place list it is -/
def permOk (n : Nat) (ps : List (List Nat)) : Bool := (genNat n n [] == ps) && ps.all fun p => (ps.any fun q => q == invN n p) && (invN n (invN n p) == p) && Nat.beq p.length n && okL (zs p) n && (List.range n).all fun j => p.any fun v => Nat.beq v j
theorem perm2 : permOk 2 perms2 = true := by decide +kernel
theorem perm4 : permOk 4 perms4 = true := by decide +kernel
set_option maxRecDepth 100000 in
theorem perm6 : permOk 6 perms6 = true := by decide +kernel
theorem gd_getD (p : List Nat) (k : Nat) (h : k < p.length) : (zs p).getD k 0 = ((gd p k : Nat) : Int) := by
  rw [gd_eq, List.getD_eq_getElem?_getD, List.getElem?_map, List.getElem?_eq_getElem h]; rfl
theorem lvAt_nat {p : List Nat} : ∀ (k : Nat) (j : Nat), k ≤ p.length → (∃ i, i < k ∧ gd p i = j) → lvAt (zs p) k (j : Int) = ((lvNat p k j : Nat) : Int) := by
  intro k
  induction k with
  | zero => rintro j _ ⟨i, hi, _⟩; omega
  | succ k ih =>
    intro j hk hf
    rw [lvAt, gd_getD p k (by omega)]
    unfold lvNat
    by_cases e : gd p k = j
    · rw [if_pos (by omega), if_pos e]
    · rw [if_neg (by omega), if_neg e]
      refine ih j (by omega) ?_
      obtain ⟨i, hi, hg⟩ := hf
      refine ⟨i, ?_, hg⟩
      have : i ≠ k := fun e2 => e (e2 ▸ hg)
      omega
structure PermF (n : Nat) (ps : List (List Nat)) (p : List Nat) : Prop where
  len : p.length = n
  inv : invN n p ∈ ps
  back : invN n (invN n p) = p
  ok : okL (zs p) n = true
  lv : lvTo (zs p) n n = zs (invN n p)
theorem perm_f {n : Nat} {ps : List (List Nat)} (h : permOk n ps = true) {p : List Nat} (hp : p ∈ ps) : PermF n ps p := by
  unfold permOk at h
  rw [Bool.and_eq_true] at h
  have h2 := List.all_eq_true.1 h.2 p hp
  simp only [Bool.and_eq_true, beq_iff_eq] at h2
  obtain ⟨⟨⟨⟨h3, h4⟩, h5⟩, h6⟩, h7⟩ := h2
  have hlen := Nat.eq_of_beq_eq_true h5
  refine ⟨hlen, ?_, h4, h6, ?_⟩
  · obtain ⟨q, hq, e⟩ := List.any_eq_true.1 h3
    rw [beq_iff_eq] at e
    rw [← e]; exact hq
  · unfold lvTo invN zs
    rw [List.map_map]
    refine List.map_congr_left fun j hj => ?_
    refine lvAt_nat n j (by omega) ?_
    obtain ⟨v, hv, e⟩ := List.any_eq_true.1 (List.all_eq_true.1 h7 j hj)
    obtain ⟨i, hi, hg⟩ := List.mem_iff_getElem.1 hv
    refine ⟨i, by omega, ?_⟩
    rw [gd_eq, List.getElem?_eq_getElem hi]
    show p[i] = j
    rw [hg]; exact Nat.eq_of_beq_eq_true e
theorem gen_perm {n : Nat} {ps : List (List Nat)} (h : permOk n ps = true) : genO n n [] = ps.map zs := by
  unfold permOk at h
  rw [Bool.and_eq_true, beq_iff_eq] at h
  have := gen_zs n n []
  rw [h.1] at this
  exact this
theorem partsTo_iff {lv ps : List Int} {f : Fd} {n : Nat} : partsTo lv ps f n = true ↔ ∀ i, i < n → partOk lv ps f i = true := by
  induction n with
  | zero => simp [partsTo]
  | succ n ih =>
    rw [partsTo, Bool.and_eq_true, ih]
    constructor
    · rintro ⟨h1, h2⟩ i hi
      by_cases e : i = n
      · rw [e]; exact h2
      · exact h1 i (by omega)
    · exact fun h => ⟨fun i hi => h i (by omega), h n (by omega)⟩
theorem rightGo_iff {lv ps : List Int} {n : Nat} {fs : List Fd} : rightGo lv ps n fs = true ↔ (∀ f, f ∈ fs → (decide (lv.getD f.1 0 < lv.getD f.2.1 0) == f.2.2.2) = true ∧ ∀ i, i < n → partOk lv ps f i = true) ∧ fs.Pairwise (fun f g => pairOk lv f g = true) := by
  induction fs with
  | nil => simp [rightGo]
  | cons f r ih =>
    rw [rightGo, Bool.and_eq_true, ih, List.pairwise_cons]
    unfold foldOk
    rw [Bool.and_eq_true, Bool.and_eq_true, partsTo_iff, List.all_eq_true]
    constructor
    · rintro ⟨⟨⟨h1, h2⟩, h3⟩, h4, h5⟩
      refine ⟨fun g hg => ?_, h3, h5⟩
      rcases List.mem_cons.1 hg with rfl | hg
      · exact ⟨h1, h2⟩
      · exact h4 g hg
    · rintro ⟨h1, h2, h3⟩
      exact ⟨⟨⟨(h1 f (by simp)).1, (h1 f (by simp)).2⟩, h2⟩, fun g hg => h1 g (by simp [hg]), h3⟩
theorem boolx {u v : Bool} (h : u = true ↔ v = true) : u = v := by cases u <;> cases v <;> simp_all
theorem pair_range {n : Nat} {R : Nat → Nat → Prop} : (List.range n).Pairwise R ↔ ∀ i j, i < j → j < n → R i j := by
  rw [List.pairwise_iff_getElem]
  constructor
  · intro h i j hij hj
    have := h i j (by rw [List.length_range]; omega) (by rw [List.length_range]; exact hj) hij
    rw [List.getElem_range, List.getElem_range] at this
    exact this
  · intro h i j hi hj hij
    rw [List.getElem_range, List.getElem_range]
    rw [List.length_range] at hj
    exact h i j hij hj
end Go.Proofs.YtkdlipbegdiaaaaGreatDoor
namespace Go.Proofs.YtkdlipbegdiaaaaGreatDoor
/-- a number put into a list -/
def insAt (L : List Int) (z : Int) (a : Nat) : List Int := L.take a ++ z :: L.drop a
/-- do two joined stamps cross -/
def crsZ (lv : List Int) (k o : Nat) : Bool := betB (lv.getD o 0) (lv.getD k 0) (lv.getD (k + 1) 0) != betB (lv.getD (o + 1) 0) (lv.getD k 0) (lv.getD (k + 1) 0)
/-- the program's rounds: k from 0 on, the other from k + 2 on by two -/
def uncI (lv : List Int) (n k : Nat) : Bool := (List.range n).all fun o => !(decide (k + 2 ≤ o ∧ o + 1 < n ∧ (o - k) % 2 = 0) && crsZ lv k o)
def uncB (lv : List Int) (n : Nat) : Bool := (List.range n).all fun k => !decide (k + 1 < n) || uncI lv n k
/-- is a list of n numbers a possible stack, the program's way -/
def posI (L : List Int) : Bool := okL L L.length && uncB (lvTo L L.length L.length) L.length
/-- and the reference's, for a list that is known to be an order -/
def posQI (lv : List Int) (k : Nat) : Bool := (List.range k).all fun m => !(decide ((k - m) % 2 = 0) && crsZ lv k m)
def posQB (lv : List Int) (n : Nat) : Bool := (List.range n).all fun k => !decide (k + 1 < n) || posQI lv k
def posQ (L : List Int) : Bool := posQB (lvTo L L.length L.length) L.length
/-- one stamp more, at the first j places -/
def insTo (L : List Int) (n : Nat) (j : Nat) : List (List Int) := ((List.range j).map (insAt L ((n : Nat) : Int))).filter posI
/-- the stacks that the program goes through -/
def stkP : Nat → List (List Int)
  | 0 => [[0]]
  | 1 => [[0]]
  | n + 2 => (stkP (n + 1)).flatMap fun L => insTo L (n + 1) (n + 2)
def stkN : Nat → Nat
  | 1 => 1
  | 2 => 2
  | 3 => 6
  | 4 => 16
  | 5 => 50
  | 6 => 144
  | 7 => 462
  | _ => 0
theorem insTo_succ (L : List Int) (n j : Nat) : insTo L n (j + 1) = insTo L n j ++ if posI (insAt L ((n : Nat) : Int) j) = true then [insAt L ((n : Nat) : Int) j] else [] := by
  unfold insTo
  rw [List.range_succ, List.map_append, List.filter_append]
  congr 1
  rw [List.map_cons, List.map_nil, List.filter_cons, List.filter_nil]
theorem insAt_len (L : List Int) (z : Int) (a : Nat) : (insAt L z a).length = L.length + 1 := by
  unfold insAt
  rw [List.length_append, List.length_cons, List.length_take, List.length_drop]; omega
theorem stkP_len : ∀ n, 1 ≤ n → ∀ L ∈ stkP n, L.length = n
  | 0, h, _, _ => by omega
  | 1, _, L, h => by
    have : L = [0] := by simpa [stkP] using h
    rw [this]; rfl
  | n + 2, _, L, h => by
    rw [stkP, List.mem_flatMap] at h
    obtain ⟨M, hM, hL⟩ := h
    unfold insTo at hL
    obtain ⟨a, _, rfl⟩ := List.mem_map.1 (List.mem_filter.1 hL).1
    rw [insAt_len, stkP_len (n + 1) (by omega) M hM]
end Go.Proofs.YtkdlipbegdiaaaaGreatDoor
namespace Go.Proofs.YtkdlipbegdiaaaaGreatDoor
open Go.RowKit
theorem uncI_true {lv : List Int} {n k : Nat} (h : ∀ o, k + 2 ≤ o → o + 1 < n → (o - k) % 2 = 0 → crsZ lv k o = false) : uncI lv n k = true := by
  unfold uncI
  rw [List.all_eq_true]
  intro o _
  by_cases c : k + 2 ≤ o ∧ o + 1 < n ∧ (o - k) % 2 = 0
  · rw [h o c.1 c.2.1 c.2.2]; simp
  · rw [decide_eq_false c]; rfl
theorem uncB_true {lv : List Int} {n : Nat} (h : ∀ k, k + 1 < n → uncI lv n k = true) : uncB lv n = true := by
  unfold uncB
  rw [List.all_eq_true]
  intro k _
  by_cases c : k + 1 < n
  · rw [h k c]; simp
  · rw [decide_eq_false c]; rfl
theorem uncB_false {lv : List Int} {n k o : Nat} (h1 : k + 2 ≤ o) (h2 : o + 1 < n) (h3 : (o - k) % 2 = 0) (h4 : crsZ lv k o = true) : uncB lv n = false := by
  have hi : uncI lv n k = false := by
    unfold uncI
    rw [List.all_eq_false]
    refine ⟨o, List.mem_range.2 (by omega), ?_⟩
    rw [h4, decide_eq_true ⟨h1, h2, h3⟩]; decide
  unfold uncB
  rw [List.all_eq_false]
  refine ⟨k, List.mem_range.2 (by omega), ?_⟩
  rw [hi, decide_eq_true (show k + 1 < n by omega)]; decide
set_option maxHeartbeats 4000000 in
set_option maxRecDepth 100000 in
theorem impl_uncrossed (A : Option Addr) (cap : Nat) (lv : List Int) (w : World) (h : Ints w A lv) (hl : lv.length ≤ 1000) :
    Calls Tryz.prog 79 #[.slice A lv.length cap] w fun e w' => e = .returned (.bool (uncB lv lv.length)) ∧ ∃ m, w.drewN m = w' := by
  have HI := Lib.hid h
  obtain ⟨n, hn⟩ : ∃ n, n = lv.length := ⟨_, rfl⟩
  have HN := Lib.hid hn
  rw [← hn] at hl ⊢
  clear h hn
  go_enter Tryz.func79, Tryz.ntmps79
  go_wp2_with fail
  go_loopg [3, 4, 5, 6] (n + 1) (fun g s3 s4 s5 s6 wr => ∃ (k u : Nat), s4 = s4 ∧ s5 = s5 ∧ s6 = s6 ∧ k ≤ n ∧ s3 = .int .i64 k ∧ n - k < g ∧ Hid (∀ k', k' < k → k' + 1 < n → uncI lv n k' = true) ∧ Hid (wr = w.drewN u))
  case atStart => exact ⟨0, 0, rfl, rfl, rfl, Nat.zero_le _, rfl, by omega, (by intro k' hk'; omega : ∀ k', k' < 0 → k' + 1 < n → uncI lv n k' = true), rfl⟩
  case round =>
    obtain ⟨k, u, _, _, _, hk, rfl, hg, HK, HW⟩ := hrel
    cases gk with
    | zero => omega
    | succ g =>
    have kw1 : IntKind.i64.wrap ((k : Int) + 1) = (k : Int) + 1 := IntWalk.i64_in _ (by omega)
    have kw2 : IntKind.i64.wrap ((k : Int) + 2) = ((k + 2 : Nat) : Int) := by rw [IntWalk.i64_in _ (by omega)]; omega
    by_cases hlt : k + 1 < n
    · have k1 : (k : Int) + 1 < (n : Int) := by omega
      have k2 : (k : Int) < (n : Int) := by omega
      have k3 : ((k : Int) + 1).toNat = k + 1 := by omega
      have k4 : (0 : Int) ≤ (k : Int) := by omega
      have k5 : (0 : Int) ≤ (k : Int) + 1 := by omega
      obtain ⟨b, off, hA, hb, hcell⟩ := HI.out (by intro e; have := HN.out; rw [e] at this; simp at this; omega)
      have HC : Hid (∀ (j v : Nat), j < n → (w.drewN v).cell? ⟨b, off + j, none⟩ = some (.int .i64 (lv.getD j 0))) := fun j v hj => hcell j _ (getD_of (by rw [← HN.out]; exact hj))
      subst hA
      obtain ⟨x, hx⟩ : ∃ x, x = lv.getD k 0 := ⟨_, rfl⟩
      obtain ⟨y, hy⟩ : ∃ y, y = lv.getD (k + 1) 0 := ⟨_, rfl⟩
      have HXY : Hid (∀ o, crsZ lv k o = (betB (lv.getD o 0) x y != betB (lv.getD (o + 1) 0) x y)) := fun o => by unfold crsZ; rw [hx, hy]
      have HX : Hid (∀ v, (w.drewN v).cell? ⟨b, off + k, none⟩ = some (.int .i64 x)) := fun v => by rw [hx]; exact HC.out k v (by omega)
      have HY : Hid (∀ v, (w.drewN v).cell? ⟨b, off + (k + 1), none⟩ = some (.int .i64 y)) := fun v => by rw [hy]; exact HC.out (k + 1) v hlt
      have hO0 : Hid (∀ o, o < k + 2 → k + 2 ≤ o → o + 1 < n → (o - k) % 2 = 0 → crsZ lv k o = false) := (by intro o h1 h2; omega : ∀ o, o < k + 2 → k + 2 ≤ o → o + 1 < n → (o - k) % 2 = 0 → crsZ lv k o = false)
      clear hx hy hcell
      go_wp2_with fail
      go_loopg [4, 5, 6] (n + 3) (fun gq s4 s5 s6 wq => ∃ (o v : Nat), s5 = s5 ∧ s6 = s6 ∧ k + 2 ≤ o ∧ o ≤ n + 1 ∧ (o - k) % 2 = 0 ∧ s4 = .int .i64 o ∧ n + 2 - o < gq ∧ Hid (∀ o', o' < o → k + 2 ≤ o' → o' + 1 < n → (o' - k) % 2 = 0 → crsZ lv k o' = false) ∧ Hid (wq = w.drewN v))
      case atStart => exact ⟨k + 2, u, rfl, rfl, by omega, by omega, by omega, rfl, by omega, hO0, HW⟩
      case round =>
        clear hO0
        obtain ⟨o, v, _, _, ho1, ho2, ho3, rfl, hgq, HO, HV⟩ := hrel
        cases gk with
        | zero => omega
        | succ gq =>
        have ow1 : IntKind.i64.wrap ((o : Int) + 1) = (o : Int) + 1 := IntWalk.i64_in _ (by omega)
        have ow2 : IntKind.i64.wrap ((o : Int) + 2) = ((o + 2 : Nat) : Int) := by rw [IntWalk.i64_in _ (by omega)]; omega
        by_cases hol : o + 1 < n
        · have o1 : (o : Int) + 1 < (n : Int) := by omega
          have o2 : (o : Int) < (n : Int) := by omega
          have o3 : ((o : Int) + 1).toNat = o + 1 := by omega
          have o4 : (0 : Int) ≤ (o : Int) := by omega
          have o5 : (0 : Int) ≤ (o : Int) + 1 := by omega
          obtain ⟨p, hp⟩ : ∃ p, p = lv.getD o 0 := ⟨_, rfl⟩
          obtain ⟨q, hq⟩ : ∃ q, q = lv.getD (o + 1) 0 := ⟨_, rfl⟩
          have HCR : Hid (crsZ lv k o = (betB p x y != betB q x y)) := by show _ = _; rw [HXY.out, hp, hq]
          have r1 : wr.cell? ⟨b, off + o, none⟩ = some (.int .i64 p) := by rw [hp, HV.out]; exact HC.out o v (by omega)
          have r2 : wr.cell? ⟨b, off + k, none⟩ = some (.int .i64 x) := by rw [HV.out]; exact HX.out v
          have r3 : wr.cell? ⟨b, off + (k + 1), none⟩ = some (.int .i64 y) := by rw [HV.out]; exact HY.out v
          have HB1 := Lib.hid (fun W => impl_isBetween p x y W)
          have HB2 := Lib.hid (fun W => impl_isBetween q x y W)
          obtain ⟨u1, hu1⟩ : ∃ u1, u1 = betB p x y := ⟨_, rfl⟩
          obtain ⟨u2, hu2⟩ : ∃ u2, u2 = betB q x y := ⟨_, rfl⟩
          rw [← hu1] at HB1 HCR
          rw [← hu2] at HB2 HCR
          have HQ : Hid (∀ V : Nat, (w.drewN V).cell? ⟨b, off + (o + 1), none⟩ = some (.int .i64 q)) := fun V => by rw [hq]; exact HC.out (o + 1) V hol
          clear hp hq hu1 hu2
          go_wp2_with fail
          go_quiet ((go_at_call 94; exact quietl (HB1.out _)))
          obtain ⟨wB, hwB⟩ : ∃ wB, wB = wr.drewN nq := ⟨_, rfl⟩
          obtain ⟨nA, hnA⟩ : ∃ z, z = nq := ⟨_, rfl⟩
          have HW2 : Hid (wB = w.drewN (v + nA)) := by show _ = _; rw [hwB, HV.out, hnA]; exact World.drewN_drewN _ _ _
          rw [← hwB]
          clear r1 r2 r3 hwB hnA
          have r1 : wB.cell? ⟨b, off + (o + 1), none⟩ = some (.int .i64 q) := by rw [HW2.out]; exact HQ.out _
          have r2 : wB.cell? ⟨b, off + k, none⟩ = some (.int .i64 x) := by rw [HW2.out]; exact HX.out _
          have r3 : wB.cell? ⟨b, off + (k + 1), none⟩ = some (.int .i64 y) := by rw [HW2.out]; exact HY.out _
          go_wp2_with fail
          go_quiet ((go_at_call 94; exact quietl (HB2.out _)))
          cases u1 with
          | true =>
            cases u2 with
            | true =>
              have HO2 : Hid (∀ o', o' < o + 2 → k + 2 ≤ o' → o' + 1 < n → (o' - k) % 2 = 0 → crsZ lv k o' = false) := (by
                intro o' h1 h2 h3 h4
                by_cases e : o' = o
                · subst e; exact HCR.out
                · exact HO.out o' (by omega) h2 h3 h4 : ∀ o', o' < o + 2 → k + 2 ≤ o' → o' + 1 < n → (o' - k) % 2 = 0 → crsZ lv k o' = false)
              go_wp2_with fail
              go_roundg gq
              case measure => omega
              case rel => exact ⟨o + 2, v + nA + nq, trivial, trivial, by omega, by omega, by omega, by go_num, by omega, HO2, by show _ = _; rw [HW2.out]; exact World.drewN_drewN _ _ _⟩
            | false =>
              have HE : Hid (uncB lv n = false) := uncB_false ho1 hol ho3 HCR.out
              go_wp2_with fail
              go_ret
              exact ⟨ret_bool (by rw [HE.out]), v + nA + nq, by rw [HW2.out]; exact (World.drewN_drewN _ _ _).symm⟩
          | false =>
            cases u2 with
            | true =>
              have HE : Hid (uncB lv n = false) := uncB_false ho1 hol ho3 HCR.out
              go_wp2_with fail
              go_ret
              exact ⟨ret_bool (by rw [HE.out]), v + nA + nq, by rw [HW2.out]; exact (World.drewN_drewN _ _ _).symm⟩
            | false =>
              have HO2 : Hid (∀ o', o' < o + 2 → k + 2 ≤ o' → o' + 1 < n → (o' - k) % 2 = 0 → crsZ lv k o' = false) := (by
                intro o' h1 h2 h3 h4
                by_cases e : o' = o
                · subst e; exact HCR.out
                · exact HO.out o' (by omega) h2 h3 h4 : ∀ o', o' < o + 2 → k + 2 ≤ o' → o' + 1 < n → (o' - k) % 2 = 0 → crsZ lv k o' = false)
              go_wp2_with fail
              go_roundg gq
              case measure => omega
              case rel => exact ⟨o + 2, v + nA + nq, trivial, trivial, by omega, by omega, by omega, by go_num, by omega, HO2, by show _ = _; rw [HW2.out]; exact World.drewN_drewN _ _ _⟩
        · have HK2 : Hid (∀ k', k' < k + 1 → k' + 1 < n → uncI lv n k' = true) := (by
            intro k' h1 h2
            by_cases e : k' = k
            · subst e; exact uncI_true fun o' h3 h4 h5 => HO.out o' (by omega) h3 h4 h5
            · exact HK.out k' (by omega) h2 : ∀ k', k' < k + 1 → k' + 1 < n → uncI lv n k' = true)
          go_wp2_with fail
          go_roundg g
          case measure => omega
          case rel => exact ⟨k + 1, v, trivial, trivial, trivial, by omega, by go_num, by omega, HK2, HV⟩
    · have HE : Hid (uncB lv n = true) := uncB_true fun k' h2 => HK.out k' (by omega) h2
      go_wp2_with fail
      go_ret
      exact ⟨ret_bool (by rw [HE.out]), u, HW.out.symm⟩
set_option maxHeartbeats 400000 in
theorem impl_stampsInRange (n : Int) (w : World) :
    Calls Tryz.prog 28 #[.int .i64 n] w fun e w' => e = .returned (.bool (decide (1 ≤ n) && decide (n ≤ 7))) ∧ w = w' := by
  by_cases h1 : 1 ≤ n
  · have d1 : decide (1 ≤ n) = true := by simpa using h1
    rw [d1]
    by_cases h2 : n ≤ 7
    · have d2 : decide (n ≤ 7) = true := by simpa using h2
      rw [d2]
      clear h1 h2
      go_enter Tryz.func28, Tryz.ntmps28
      go_wp2_with fail
      go_ret
      exact ⟨rfl, rfl⟩
    · have d2 : decide (n ≤ 7) = false := by simpa using h2
      rw [d2]
      clear h1 h2
      go_enter Tryz.func28, Tryz.ntmps28
      go_wp2_with fail
      go_ret
      exact ⟨rfl, rfl⟩
  · have d1 : decide (1 ≤ n) = false := by simpa using h1
    rw [d1]
    clear h1
    go_enter Tryz.func28, Tryz.ntmps28
    go_wp2_with fail
    go_ret
    exact ⟨rfl, rfl⟩
set_option maxHeartbeats 1000000 in
set_option maxRecDepth 100000 in
theorem impl_StampPossible (A : Option Addr) (cap : Nat) (L : List Int) (w : World) (h : Ints w A L) (h1 : 1 ≤ L.length) (h7 : L.length ≤ 7) :
    Calls Tryz.prog 53 #[.slice A L.length cap] w fun e w' => e = .returned (.bool (posI L)) ∧ Below w.heap.size w w' := by
  have HR := Lib.hid (impl_stampsInRange (L.length : Int) w)
  rw [decide_eq_true (show (1 : Int) ≤ (L.length : Int) by omega), decide_eq_true (show (L.length : Int) ≤ 7 by omega)] at HR
  have HL := Lib.hid (impl_levelsOf A cap L.length L w h (by omega) (by omega))
  have HU := Lib.hid (fun (B : Option Addr) (c : Nat) (W : World) (hB : Ints W B (lvTo L L.length L.length)) => impl_uncrossed B c (lvTo L L.length L.length) W hB (by rw [lvTo_len]; omega))
  have HP : Hid (posI L = (okL L L.length && uncB (lvTo L L.length L.length) L.length)) := rfl
  have hlen := lvTo_len L L.length L.length
  rw [hlen] at HU
  obtain ⟨n, hn⟩ : ∃ n, n = L.length := ⟨_, rfl⟩
  obtain ⟨lv, hlv⟩ : ∃ lv, lv = lvTo L L.length L.length := ⟨_, rfl⟩
  rw [← hlv] at HU HP hlen
  rw [← hn] at HR HL HU HP hlen ⊢
  have HLV : Hid (lvTo L n n = lv) := by show _ = _; rw [hlv, hn]
  have HLL := Lib.hid hlen
  obtain ⟨ok, hok⟩ : ∃ ok, ok = okL L n := ⟨_, rfl⟩
  have HOK : Hid (okL L n = ok) := hok.symm
  obtain ⟨ub, hub⟩ : ∃ ub, ub = uncB lv n := ⟨_, rfl⟩
  rw [← hub] at HU HP
  rw [← hok] at HP
  clear h h1 h7 hlv hn hlen hok hub
  go_enter Tryz.func53, Tryz.ntmps53
  go_wp2_with fail
  refine HR.out.mono ?_
  rintro e _ ⟨rfl, rfl⟩
  go_wp2_with fail
  refine HL.out.mono ?_
  rintro e w1 ⟨v, rfl, hv, hb1⟩
  rw [HOK.out]
  rw [HOK.out, HLV.out] at hv
  have HB1 := Lib.hid hb1
  clear HL HR hb1
  cases ok with
  | true =>
    obtain ⟨Al, cl, rfl, hIl, _, _⟩ := Own.form (hv rfl)
    have HIL := Lib.hid (HU.out Al cl w1 hIl)
    rw [HLL.out]
    clear hv hIl HU
    go_wp2_with fail
    refine HIL.out.mono ?_
    rintro e _ ⟨rfl, m, rfl⟩
    go_wp2_with fail
    go_ret
    exact ⟨ret_bool (by rw [HP.out]; rfl), below_drewN HB1.out m⟩
  | false =>
    clear hv
    go_wp2_with fail
    go_ret
    exact ⟨ret_bool (by rw [HP.out]; rfl), HB1.out⟩
end Go.Proofs.YtkdlipbegdiaaaaGreatDoor
namespace Go.Proofs.YtkdlipbegdiaaaaGreatDoor
theorem stkP_count6 : ∀ n, n < 7 → 1 ≤ n → (stkP n).length = stkN n := by decide +kernel
theorem stkP_count7 : (stkP 7).length = stkN 7 := by decide +kernel
theorem posQ_count6 : ∀ n, n < 7 → 1 ≤ n → ((genO n n []).filter posQ).length = stkN n := by decide +kernel
end Go.Proofs.YtkdlipbegdiaaaaGreatDoor
namespace Go.Proofs.YtkdlipbegdiaaaaGreatDoor
theorem posQ_count7 : ((genO 7 7 []).filter posQ).length = stkN 7 := by decide +kernel
end Go.Proofs.YtkdlipbegdiaaaaGreatDoor
namespace Go.Proofs.YtkdlipbegdiaaaaGreatDoor
open Go.RowKit
set_option maxHeartbeats 2000000 in
set_option maxRecDepth 100000 in
theorem spec_l2Places (A : Option Addr) (cap : Nat) (xs : List Int) (w : World) (h : Ints w A xs) (hl : xs.length ≤ 100) (hx : ∀ x ∈ xs, 0 ≤ x ∧ x ≤ 1000) :
    Calls Tryz.prog 69 #[.slice A xs.length cap] w fun e w' => ∃ v, e = .returned v ∧ Own w' w.heap.size v (plcL xs) ∧ Below w.heap.size w w' := by
  have HO1 : Hid (Own (w.alloc (.cells #[.int .i64 0] 3)) w.heap.size (.slice (some ⟨w.heap.size, 0, none⟩) 1 1) (plcTo xs 1)) := own_one w 0 (Nat.le_refl _)
  have HB1 : Hid (Below w.heap.size w (w.alloc (.cells #[.int .i64 0] 3))) := (Below.refl _ _).alloc (Nat.le_refl _) _
  have HI := Lib.hid h
  have HX := Lib.hid hx
  clear h hx
  go_enter Tryz.func69, Tryz.ntmps69
  go_wp2_with fail
  go_loopg [3, 4] (xs.length + 1) (fun gg s3 s4 wr => ∃ (k : Nat), k ≤ xs.length ∧ s4 = .int .i64 k ∧ xs.length - k < gg ∧ Hid (Own wr w.heap.size s3 (plcTo xs (k + 1))) ∧ Hid (Below w.heap.size w wr))
  case atStart => exact ⟨0, Nat.zero_le _, rfl, by omega, HO1, HB1⟩
  case round =>
    clear HO1 HB1
    obtain ⟨k, hk, rfl, hg, HO, HB⟩ := hrel
    cases gk with
    | zero => omega
    | succ gl =>
    by_cases hlt : k < xs.length
    · obtain ⟨b, off, rfl, hb, hc⟩ := (HI.out.below HB.out) (by intro e; rw [e] at hlt; simp at hlt)
      have r1 := hc k xs[k] (List.getElem?_eq_getElem hlt)
      have hxk := HX.out xs[k] (List.getElem_mem hlt)
      have hpb := plcAt_bd HX.out k
      have hnext : plcAt xs (k + 1) = if k % 2 = 0 then plcAt xs k + xs[k] else plcAt xs k - xs[k] := by
        rw [plcAt, List.getD_eq_getElem?_getD, List.getElem?_eq_getElem hlt]; rfl
      obtain ⟨A3, c3, rfl, hI3, hc3, hm3⟩ := Own.form HO.out
      obtain ⟨b3, off3, rfl, hb3, hcc⟩ := hI3 (by intro e; have := congrArg List.length e; rw [plcTo_len, List.length_nil] at this; omega)
      have r2 := hcc k (plcAt xs k) (plcTo_get (by omega))
      obtain ⟨x, hx0⟩ : ∃ x, x = xs[k] := ⟨_, rfl⟩
      obtain ⟨p, hp0⟩ : ∃ p, p = plcAt xs k := ⟨_, rfl⟩
      rw [← hx0] at r1 hxk hnext
      rw [← hp0] at hpb hnext r2
      obtain ⟨m1, m2⟩ := mod2z k
      have k1 : (k : Int) < (xs.length : Int) := by omega
      have k0 : (0 : Int) ≤ (k : Int) := by omega
      have hpl := plcTo_len xs (k + 1)
      have k2 : (k : Int) < ((plcTo xs (k + 1)).length : Int) := by rw [hpl]; omega
      have hT := plcTo_succ xs (k + 1)
      have hown := HO.out
      have hsz := HB.out.size
      have hln : (plcTo xs (k + 1)).length ≤ 101 := by rw [plcTo_len]; omega
      clear hcc hc hI3 hc3 hm3 hpl
      by_cases he : k % 2 = 0
      · rw [if_pos he] at hnext
        rw [he] at m1 m2
        have kw : IntKind.i64.wrap (p + x) = p + x := IntWalk.i64_in _ (by omega)
        rw [hnext] at hT
        have HT := Lib.hid hT
        clear hx0 hp0 hnext hT he HO
        go_wp2_with fail
        have HW := Lib.hid hown
        have hin : Ints ((wr.drewN 1).alloc (.cells #[.int .i64 (p + x)] 3)) (some ⟨(wr.drewN 1).heap.size, 0, none⟩) [p + x] := Ints.of_own (own_one (wr.drewN 1) (p + x) (Nat.zero_le (wr.drewN 1).heap.size))
        have HIN := Lib.hid hin
        clear hin hown
        go_region_law (refine step_app (by rfl) _ _ (by rfl) w.heap.size _ (plcTo xs (k + 1)) [p + x] _ _ (by rfl) 1 rfl (by rfl) (own_below2' HW.out ((below_drewN (Below.refl _ _) 1).alloc (Nat.le_refl _) _)) HIN.out (Nat.le_trans hsz (by simp)) (by simp; omega) ?_; intro v4 w4 hown4 hgr4 hb4)
        all_goals
          rw [← HT.out] at hown4
          have HO4 := Lib.hid hown4
          have HB4 : Hid (Below w.heap.size w w4) := HB.out.trans (((below_drewN (Below.refl wr.heap.size wr) 1).alloc (Nat.le_refl _) _).mono hsz |>.trans hb4)
          clear hown4 hgr4 hb4
          go_wp2_with fail
          go_roundg gl
          case measure => omega
          case rel => exact ⟨k + 1, by omega, by go_num, by omega, HO4, HB4⟩
      · rw [if_neg he] at hnext
        rw [show k % 2 = 1 from by omega] at m1 m2
        have kw : IntKind.i64.wrap (p - x) = p - x := IntWalk.i64_in _ (by omega)
        rw [hnext] at hT
        have HT := Lib.hid hT
        clear hx0 hp0 hnext hT he HO
        go_wp2_with fail
        have HW := Lib.hid hown
        have hin : Ints ((wr.drewN 1).alloc (.cells #[.int .i64 (p - x)] 3)) (some ⟨(wr.drewN 1).heap.size, 0, none⟩) [p - x] := Ints.of_own (own_one (wr.drewN 1) (p - x) (Nat.zero_le (wr.drewN 1).heap.size))
        have HIN := Lib.hid hin
        clear hin hown
        go_region_law (refine step_app (by rfl) _ _ (by rfl) w.heap.size _ (plcTo xs (k + 1)) [p - x] _ _ (by rfl) 1 rfl (by rfl) (own_below2' HW.out ((below_drewN (Below.refl _ _) 1).alloc (Nat.le_refl _) _)) HIN.out (Nat.le_trans hsz (by simp)) (by simp; omega) ?_; intro v4 w4 hown4 hgr4 hb4)
        all_goals
          rw [← HT.out] at hown4
          have HO4 := Lib.hid hown4
          have HB4 : Hid (Below w.heap.size w w4) := HB.out.trans (((below_drewN (Below.refl wr.heap.size wr) 1).alloc (Nat.le_refl _) _).mono hsz |>.trans hb4)
          clear hown4 hgr4 hb4
          go_wp2_with fail
          go_roundg gl
          case measure => omega
          case rel => exact ⟨k + 1, by omega, by go_num, by omega, HO4, HB4⟩
    · obtain rfl : k = xs.length := by omega
      go_wp2_with fail
      go_ret
      exact ⟨_, rfl, HO.out, HB.out⟩
end Go.Proofs.YtkdlipbegdiaaaaGreatDoor
