/- The right layers of a ring, as the program counts them, against its crimps. No condition. Parts laid flat: the first right layers of a ring. No condition but sizes. -/
import Derived.Test.YtngpeehjjcgmmaaLayF
import Derived.Test.YtngpeehjjcgmmaaFnRingTwoWaysP45
import Derived.Test.YtngpeehjjcgmmaaConfC
namespace Go.Proofs.Ytngpeehjjcgmmaa

/-- all orders of n numbers that begin so -/
def genO (n : Nat) : Nat → List Int → List (List Int)
  | 0, xs => [xs]
  | k + 1, xs => (List.range n).flatMap fun (j : Nat) => if (j : Int) ∈ xs then [] else genO n k (xs ++ [(j : Int)])
theorem ordTo_sum (xs : List Int) (g : List Int → List (List Int)) (wt : List Int → Nat) : ∀ j, ordTo xs (fun l => ((g l).map wt).sum) j = (((List.range j).flatMap fun (j : Nat) => if (j : Int) ∈ xs then [] else g (xs ++ [(j : Int)])).map wt).sum := by
  intro j
  induction j with
  | zero => rfl
  | succ j ih =>
    rw [ordTo, ih, List.range_succ, List.flatMap_append, List.map_append, List.sum_append_nat]
    congr 1
    simp only [List.flatMap_cons, List.flatMap_nil, List.append_nil]
    split <;> simp
theorem ordSum_gen (n : Nat) (wt : List Int → Nat) : ∀ k xs, ordSum n wt k xs = ((genO n k xs).map wt).sum := by
  intro k
  induction k with
  | zero => intro xs; simp [ordSum, genO]
  | succ k ih =>
    intro xs
    have : ordSum n wt k = fun l => ((genO n k l).map wt).sum := funext ih
    rw [ordSum, this, ordTo_sum]; rfl
theorem sum_pos {l : List Nat} : 0 < l.sum ↔ ∃ a, a ∈ l ∧ 0 < a := by
  induction l with
  | nil => simp
  | cons a r ih =>
    rw [List.sum_cons]
    constructor
    · intro h
      by_cases ha : 0 < a
      · exact ⟨a, by simp, ha⟩
      · obtain ⟨b, hb, h0⟩ := ih.1 (by omega)
        exact ⟨b, by simp [hb], h0⟩
    · rintro ⟨b, hb, h0⟩
      rcases List.mem_cons.1 hb with rfl | hb
      · omega
      · have := ih.2 ⟨b, hb, h0⟩; omega
theorem rcount_pos {n : Nat} {ps : List Int} {fs : List Fd} : 0 < rcount n ps fs ↔ ∃ L, L ∈ genO n n [] ∧ rightB L n ps fs = true := by
  unfold rcount
  rw [ordSum_gen, sum_pos]
  constructor
  · rintro ⟨a, ha, h0⟩
    obtain ⟨L, hL, rfl⟩ := List.mem_map.1 ha
    refine ⟨L, hL, ?_⟩
    unfold rwt at h0
    split at h0
    · rename_i h; exact h
    · omega
  · rintro ⟨L, hL, hr⟩
    refine ⟨_, List.mem_map.2 ⟨L, hL, rfl⟩, ?_⟩
    unfold rwt
    rw [if_pos hr]; omega
/-- numbers as integers -/
abbrev zs (p : List Nat) : List Int := p.map fun (k : Nat) => (k : Int)
/-- where a number stands -/
def lvNat (p : List Nat) : Nat → Nat → Nat
  | 0, _ => 0
  | k + 1, j => if gd p k = j then k else lvNat p k j
def invN (n : Nat) (p : List Nat) : List Nat := (List.range n).map (lvNat p n)
def genNat (n : Nat) : Nat → List Nat → List (List Nat)
  | 0, xs => [xs]
  | k + 1, xs => (List.range n).flatMap fun j => if xs.contains j then [] else genNat n k (xs ++ [j])
theorem zs_app (a b : List Nat) : zs (a ++ b) = zs a ++ zs b := by simp
theorem gen_zs (n : Nat) : ∀ k xs, genO n k (zs xs) = (genNat n k xs).map zs := by
  intro k
  induction k with
  | zero => intro xs; simp [genO, genNat]
  | succ k ih =>
    intro xs
    unfold genO genNat
    rw [List.map_flatMap]
    congr 1
    funext j
    have hm : ((j : Int) ∈ zs xs) ↔ xs.contains j = true := by
      rw [List.contains_iff_mem, List.mem_map]
      constructor
      · rintro ⟨a, ha, e⟩
        have : a = j := by omega
        rw [← this]; exact ha
      · intro h; exact ⟨j, h, rfl⟩
    by_cases h : xs.contains j = true
    · rw [if_pos (hm.2 h), if_pos h]; rfl
    · rw [if_neg (fun h' => h (hm.1 h')), if_neg h, ← ih]
      congr 1
      simp
/-- what the kernel has looked over: every order's place list is an order, whose place list it is -/
def permOk (n : Nat) (ps : List (List Nat)) : Bool := (genNat n n [] == ps) && ps.all fun p => (ps.any fun q => q == invN n p) && (invN n (invN n p) == p) && Nat.beq p.length n && okL (zs p) n && (List.range n).all fun j => p.any fun v => Nat.beq v j
theorem perm2 : permOk 2 perms2 = true := by decide +kernel
theorem perm4 : permOk 4 perms4 = true := by decide +kernel
set_option maxRecDepth 100000 in
theorem perm6 : permOk 6 perms6 = true := by decide +kernel
theorem gd_getD (p : List Nat) (k : Nat) (h : k < p.length) : (zs p).getD k 0 = ((gd p k : Nat) : Int) := by
  rw [gd_eq, List.getD_eq_getElem?_getD, List.getElem?_map, List.getElem?_eq_getElem h]; rfl
theorem lvAt_nat {p : List Nat} : ∀ (k : Nat) (j : Nat), k ≤ p.length → (∃ i, i < k ∧ gd p i = j) → lvAt (zs p) k (j : Int) = ((lvNat p k j : Nat) : Int) := by
  intro k
  induction k with
  | zero => rintro j _ ⟨i, hi, _⟩; omega
  | succ k ih =>
    intro j hk hf
    rw [lvAt, gd_getD p k (by omega)]
    unfold lvNat
    by_cases e : gd p k = j
    · rw [if_pos (by omega), if_pos e]
    · rw [if_neg (by omega), if_neg e]
      refine ih j (by omega) ?_
      obtain ⟨i, hi, hg⟩ := hf
      refine ⟨i, ?_, hg⟩
      have : i ≠ k := fun e2 => e (e2 ▸ hg)
      omega
structure PermF (n : Nat) (ps : List (List Nat)) (p : List Nat) : Prop where
  len : p.length = n
  inv : invN n p ∈ ps
  back : invN n (invN n p) = p
  ok : okL (zs p) n = true
  lv : lvTo (zs p) n n = zs (invN n p)
theorem perm_f {n : Nat} {ps : List (List Nat)} (h : permOk n ps = true) {p : List Nat} (hp : p ∈ ps) : PermF n ps p := by
  unfold permOk at h
  rw [Bool.and_eq_true] at h
  have h2 := List.all_eq_true.1 h.2 p hp
  simp only [Bool.and_eq_true, beq_iff_eq] at h2
  obtain ⟨⟨⟨⟨h3, h4⟩, h5⟩, h6⟩, h7⟩ := h2
  have hlen := Nat.eq_of_beq_eq_true h5
  refine ⟨hlen, ?_, h4, h6, ?_⟩
  · obtain ⟨q, hq, e⟩ := List.any_eq_true.1 h3
    rw [beq_iff_eq] at e
    rw [← e]; exact hq
  · unfold lvTo invN zs
    rw [List.map_map]
    refine List.map_congr_left fun j hj => ?_
    refine lvAt_nat n j (by omega) ?_
    obtain ⟨v, hv, e⟩ := List.any_eq_true.1 (List.all_eq_true.1 h7 j hj)
    obtain ⟨i, hi, hg⟩ := List.mem_iff_getElem.1 hv
    refine ⟨i, by omega, ?_⟩
    rw [gd_eq, List.getElem?_eq_getElem hi]
    show p[i] = j
    rw [hg]; exact Nat.eq_of_beq_eq_true e
theorem gen_perm {n : Nat} {ps : List (List Nat)} (h : permOk n ps = true) : genO n n [] = ps.map zs := by
  unfold permOk at h
  rw [Bool.and_eq_true, beq_iff_eq] at h
  have := gen_zs n n []
  rw [h.1] at this
  exact this
theorem partsTo_iff {lv ps : List Int} {f : Fd} {n : Nat} : partsTo lv ps f n = true ↔ ∀ i, i < n → partOk lv ps f i = true := by
  induction n with
  | zero => simp [partsTo]
  | succ n ih =>
    rw [partsTo, Bool.and_eq_true, ih]
    constructor
    · rintro ⟨h1, h2⟩ i hi
      by_cases e : i = n
      · rw [e]; exact h2
      · exact h1 i (by omega)
    · exact fun h => ⟨fun i hi => h i (by omega), h n (by omega)⟩
theorem rightGo_iff {lv ps : List Int} {n : Nat} {fs : List Fd} : rightGo lv ps n fs = true ↔ (∀ f, f ∈ fs → (decide (lv.getD f.1 0 < lv.getD f.2.1 0) == f.2.2.2) = true ∧ ∀ i, i < n → partOk lv ps f i = true) ∧ fs.Pairwise (fun f g => pairOk lv f g = true) := by
  induction fs with
  | nil => simp [rightGo]
  | cons f r ih =>
    rw [rightGo, Bool.and_eq_true, ih, List.pairwise_cons]
    unfold foldOk
    rw [Bool.and_eq_true, Bool.and_eq_true, partsTo_iff, List.all_eq_true]
    constructor
    · rintro ⟨⟨⟨h1, h2⟩, h3⟩, h4, h5⟩
      refine ⟨fun g hg => ?_, h3, h5⟩
      rcases List.mem_cons.1 hg with rfl | hg
      · exact ⟨h1, h2⟩
      · exact h4 g hg
    · rintro ⟨h1, h2, h3⟩
      exact ⟨⟨⟨(h1 f (by simp)).1, (h1 f (by simp)).2⟩, h2⟩, fun g hg => h1 g (by simp [hg]), h3⟩
theorem betB_nat (a b c : Nat) : betB (a : Int) (b : Int) (c : Int) = betN a b c := by
  have e : ∀ {u v : Bool}, (u = true ↔ v = true) → u = v := by intro u v h; cases u <;> cases v <;> simp_all
  apply e
  unfold betB betN
  simp only [Bool.and_eq_true, Bool.or_eq_true, decide_eq_true_eq, Nat.blt_eq]
  omega
theorem betB_rank {n : Nat} {p : Nat → Int} {a b c : Nat} (ha : a < n) (hb : b < n) (hc : c < n) : betB (p a) (p b) (p c) = betN (gd (patP n p) a) (gd (patP n p) b) (gd (patP n p) c) := by
  have e : ∀ {u v : Bool}, (u = true ↔ v = true) → u = v := by intro u v h; cases u <;> cases v <;> simp_all
  apply e
  have h1 := gd_lt (p := p) ha hb
  have h2 := gd_lt (p := p) ha hc
  have h3 := gd_lt (p := p) hb ha
  have h4 := gd_lt (p := p) hc ha
  unfold betB betN
  simp only [Bool.and_eq_true, Bool.or_eq_true, decide_eq_true_eq, Nat.blt_eq]
  omega
theorem plc_pl (xs : List Int) : ∀ k, plcAt xs k = pl (angleAt xs) k := by
  intro k
  induction k with
  | zero => rfl
  | succ k ih => rw [plcAt, ih]; rfl
theorem plcL_get {xs : List Int} {k : Nat} (h : k ≤ xs.length) : (plcL xs).getD k 0 = pl (angleAt xs) k := by
  unfold plcL
  rw [List.getD_eq_getElem?_getD, plcTo_get (by omega), ← plc_pl]; rfl
/-- the fold k of a ring -/
def fdK (xs : List Int) (s : ByteArray) (n k : Nat) : Fd := ((k + n - 1) % n, k, plcAt xs k, isV s k == ((k + n - 1) % n % 2 == 0))
theorem boolx {u v : Bool} (h : u = true ↔ v = true) : u = v := by cases u <;> cases v <;> simp_all
theorem partOk_n {xs : List Int} {s : ByteArray} {q : List Nat} {k i : Nat} (hq : q.length = xs.length) (hs : pl (angleAt xs) xs.length = 0) (hk : k < xs.length) (hi : i < xs.length) :
    partOk (zs q) (plcL xs) (fdK xs s xs.length k) i = !(betN (gd q i) (gd q ((k + xs.length - 1) % xs.length)) (gd q k) && betN (gd (patP xs.length (pl (angleAt xs))) k) (gd (patP xs.length (pl (angleAt xs))) i) (gd (patP xs.length (pl (angleAt xs))) ((i + 1) % xs.length))) := by
  have hp : (k + xs.length - 1) % xs.length < xs.length := Nat.mod_lt _ (by omega)
  have hw : pl (angleAt xs) (i + 1) = pl (angleAt xs) ((i + 1) % xs.length) := by
    by_cases e : i + 1 = xs.length
    · rw [e, Nat.mod_self, hs]; rfl
    · rw [Nat.mod_eq_of_lt (by omega)]
  unfold partOk insB fdK
  simp only []
  rw [gd_getD q i (by omega), gd_getD q _ (by omega), gd_getD q k (by omega), betB_nat, plcL_get (by omega), plcL_get (by omega), plc_pl, hw, betB_rank hk hi (Nat.mod_lt _ (by omega))]
theorem crossB_n {xs : List Int} {s : ByteArray} {q : List Nat} {k m : Nat} (hq : q.length = xs.length) (hk : k < xs.length) (hm : m < xs.length) :
    crossB (zs q) (fdK xs s xs.length k) (fdK xs s xs.length m) = (Nat.beq (gd (patP xs.length (pl (angleAt xs))) k) (gd (patP xs.length (pl (angleAt xs))) m) && Nat.beq (k % 2) (m % 2) && (betN (gd q ((m + xs.length - 1) % xs.length)) (gd q ((k + xs.length - 1) % xs.length)) (gd q k) != betN (gd q m) (gd q ((k + xs.length - 1) % xs.length)) (gd q k))) := by
  have h1 : (k + xs.length - 1) % xs.length < xs.length := Nat.mod_lt _ (by omega)
  have h2 : (m + xs.length - 1) % xs.length < xs.length := Nat.mod_lt _ (by omega)
  unfold crossB fdK
  simp only []
  rw [gd_getD q _ (by omega), gd_getD q _ (by omega), gd_getD q k (by omega), gd_getD q m (by omega), betB_nat, betB_nat, plc_pl, plc_pl]
  have e1 : (pl (angleAt xs) k == pl (angleAt xs) m) = Nat.beq (gd (patP xs.length (pl (angleAt xs))) k) (gd (patP xs.length (pl (angleAt xs))) m) := by
    apply boolx
    rw [beq_iff_eq, ← gd_eqq hk hm]
    constructor
    · intro h; rw [h]; exact Nat.beq_refl _
    · exact Nat.eq_of_beq_eq_true
  have e2 : (k % 2 == m % 2) = Nat.beq (k % 2) (m % 2) := by
    apply boolx
    rw [beq_iff_eq, Nat.beq_eq]
  rw [e1, e2]
theorem consA_all {n : Nat} {r q : List Nat} : (consA n r).all (okA q) = true ↔ ∀ k, k < n → ∀ i, i < n → (!(betN (gd q i) (gd q ((k + n - 1) % n)) (gd q k) && betN (gd r k) (gd r i) (gd r ((i + 1) % n)))) = true := by
  unfold consA
  rw [List.all_eq_true]
  constructor
  · intro h k hk i hi
    cases hb : betN (gd r k) (gd r i) (gd r ((i + 1) % n)) with
    | false => simp
    | true =>
      have := h (i, (k + n - 1) % n, k) (List.mem_flatMap.2 ⟨k, List.mem_range.2 hk, List.mem_map.2 ⟨i, List.mem_filter.2 ⟨List.mem_range.2 hi, hb⟩, rfl⟩⟩)
      unfold okA at this
      simp only [Bool.and_true]
      exact this
  · intro h t ht
    obtain ⟨k, hk, ht⟩ := List.mem_flatMap.1 ht
    obtain ⟨i, hi, rfl⟩ := List.mem_map.1 ht
    obtain ⟨hi, hb⟩ := List.mem_filter.1 hi
    have := h k (List.mem_range.1 hk) i (List.mem_range.1 hi)
    rw [hb, Bool.and_true] at this
    exact this
theorem consB_all {n : Nat} {r q : List Nat} : (consB n r).all (okB q) = true ↔ ∀ k, k < n → ∀ m, m < n → k < m → Nat.beq (gd r k) (gd r m) = true → Nat.beq (k % 2) (m % 2) = true → okB q ((k + n - 1) % n, k, (m + n - 1) % n, m) = true := by
  unfold consB
  rw [List.all_eq_true]
  constructor
  · intro h k hk m hm hkm h1 h2
    refine h _ (List.mem_flatMap.2 ⟨k, List.mem_range.2 hk, List.mem_map.2 ⟨m, List.mem_filter.2 ⟨List.mem_range.2 hm, ?_⟩, rfl⟩⟩)
    rw [h1, h2, show Nat.blt k m = true from by rw [Nat.blt_eq]; exact hkm]; rfl
  · intro h t ht
    obtain ⟨k, hk, ht⟩ := List.mem_flatMap.1 ht
    obtain ⟨m, hm, rfl⟩ := List.mem_map.1 ht
    obtain ⟨hm, hb⟩ := List.mem_filter.1 hm
    simp only [Bool.and_eq_true] at hb
    exact h k (List.mem_range.1 hk) m (List.mem_range.1 hm) (by have := hb.1.1; rw [Nat.blt_eq] at this; exact this) hb.2 hb.1.2
theorem pairOk_n {xs : List Int} {s : ByteArray} {q : List Nat} {k m : Nat} (hq : q.length = xs.length) (hk : k < xs.length) (hm : m < xs.length) :
    pairOk (zs q) (fdK xs s xs.length k) (fdK xs s xs.length m) = true ↔ (Nat.beq (gd (patP xs.length (pl (angleAt xs))) k) (gd (patP xs.length (pl (angleAt xs))) m) = true → Nat.beq (k % 2) (m % 2) = true → okB q ((k + xs.length - 1) % xs.length, k, (m + xs.length - 1) % xs.length, m) = true) := by
  have hsy : ∀ a b : Nat, Nat.beq a b = Nat.beq b a := by
    intro a b
    apply boolx
    constructor
    · intro h; rw [Nat.eq_of_beq_eq_true h]; exact Nat.beq_refl _
    · intro h; rw [Nat.eq_of_beq_eq_true h]; exact Nat.beq_refl _
  unfold pairOk
  rw [crossB_n hq hk hm, crossB_n hq hm hk, hsy (gd (patP xs.length (pl (angleAt xs))) m), hsy (m % 2)]
  unfold okB
  simp only []
  generalize Nat.beq (gd (patP xs.length (pl (angleAt xs))) k) (gd (patP xs.length (pl (angleAt xs))) m) = A
  generalize Nat.beq (k % 2) (m % 2) = B
  generalize betN (gd q ((m + xs.length - 1) % xs.length)) (gd q ((k + xs.length - 1) % xs.length)) (gd q k) = u1
  generalize betN (gd q m) (gd q ((k + xs.length - 1) % xs.length)) (gd q k) = u2
  generalize betN (gd q ((k + xs.length - 1) % xs.length)) (gd q ((m + xs.length - 1) % xs.length)) (gd q m) = u3
  generalize betN (gd q k) (gd q ((m + xs.length - 1) % xs.length)) (gd q m) = u4
  cases A <;> cases B <;> cases u1 <;> cases u2 <;> cases u3 <;> cases u4 <;> decide
theorem pair_range {n : Nat} {R : Nat → Nat → Prop} : (List.range n).Pairwise R ↔ ∀ i j, i < j → j < n → R i j := by
  rw [List.pairwise_iff_getElem]
  constructor
  · intro h i j hij hj
    have := h i j (by rw [List.length_range]; omega) (by rw [List.length_range]; exact hj) hij
    rw [List.getElem_range, List.getElem_range] at this
    exact this
  · intro h i j hi hj hij
    rw [List.getElem_range, List.getElem_range]
    rw [List.length_range] at hj
    exact h i j hij hj
theorem code_iff {n : Nat} {q : List Nat} {f : Nat → Nat} : codeN n q = codeF n f ↔ ∀ k, k < n → bitN n q k = (f k == 86) := by
  rw [codeN_msk]
  unfold codeF
  constructor
  · intro h k hk
    have h1 := mskF_bit (bitN n q) n 0 k hk
    have h2 := mskF_bit (fun k => f k == 86) n 0 k hk
    rw [h, h2, Nat.zero_add] at h1
    revert h1
    cases bitN n q k <;> cases (f k == 86) <;> simp
  · intro h
    exact mskF_congr n 0 0 fun k hk => by rw [Nat.zero_add]; exact h k hk
theorem right_iff {xs : List Int} {s : ByteArray} {q : List Nat} (hq : q.length = xs.length) (hs : pl (angleAt xs) xs.length = 0) :
    rightGo (zs q) (plcL xs) xs.length (fdR xs s xs.length xs.length) = true ↔ (consA xs.length (patP xs.length (pl (angleAt xs)))).all (okA q) = true ∧ (consB xs.length (patP xs.length (pl (angleAt xs)))).all (okB q) = true ∧ codeN xs.length q = codeF xs.length (byteAt s) := by
  have hfd : fdR xs s xs.length xs.length = (List.range xs.length).map (fdK xs s xs.length) := rfl
  rw [rightGo_iff, hfd, List.pairwise_map, pair_range, consA_all, consB_all, code_iff]
  have hbit : ∀ k, k < xs.length → ((decide ((zs q).getD (fdK xs s xs.length k).1 0 < (zs q).getD (fdK xs s xs.length k).2.1 0) == (fdK xs s xs.length k).2.2.2) = true ↔ bitN xs.length q k = (byteAt s k == 86)) := by
    intro k hk
    have h1 : (k + xs.length - 1) % xs.length < xs.length := Nat.mod_lt _ (by omega)
    unfold fdK bitN
    simp only []
    rw [gd_getD q _ (by omega), gd_getD q k (by omega)]
    have e1 : decide (((gd q ((k + xs.length - 1) % xs.length) : Nat) : Int) < ((gd q k : Nat) : Int)) = Nat.blt (gd q ((k + xs.length - 1) % xs.length)) (gd q k) := by
      apply boolx
      rw [decide_eq_true_eq, Nat.blt_eq]; omega
    have e2 : isV s k = (byteAt s k == 86) := by
      apply boolx
      unfold isV byteAt
      rw [beq_iff_eq, beq_iff_eq]; omega
    have e3 : ((k + xs.length - 1) % xs.length % 2 == 0) = Nat.beq ((k + xs.length - 1) % xs.length % 2) 0 := by
      apply boolx
      rw [beq_iff_eq, Nat.beq_eq]
    rw [e1, e2, e3]
    generalize Nat.blt (gd q ((k + xs.length - 1) % xs.length)) (gd q k) = u
    generalize Nat.beq ((k + xs.length - 1) % xs.length % 2) 0 = v
    generalize (byteAt s k == 86) = z
    cases u <;> cases v <;> cases z <;> decide
  constructor
  · rintro ⟨h1, h2⟩
    have h1' : ∀ k, k < xs.length → _ := fun k hk => h1 _ (List.mem_map.2 ⟨k, List.mem_range.2 hk, rfl⟩)
    refine ⟨fun k hk i hi => ?_, fun k hk m hm hkm => ?_, fun k hk => (hbit k hk).1 (h1' k hk).1⟩
    · rw [← partOk_n (s := s) hq hs hk hi]; exact (h1' k hk).2 i hi
    · exact (pairOk_n hq hk hm).1 (h2 k m hkm hm)
  · rintro ⟨h1, h2, h3⟩
    refine ⟨fun f hf => ?_, fun k m hkm hm => (pairOk_n hq (by omega) hm).2 (h2 k (by omega) m hm hkm)⟩
    obtain ⟨k, hk, rfl⟩ := List.mem_map.1 hf
    rw [List.mem_range] at hk
    exact ⟨(hbit k hk).2 (h3 k hk), fun i hi => by rw [partOk_n (s := s) hq hs hk hi]; exact h1 k hk i hi⟩
theorem lay_count {xs : List Int} {s : ByteArray} {ps : List (List Nat)} (hP : permOk xs.length ps = true) (hs : pl (angleAt xs) xs.length = 0) : 0 < rmany xs s ↔ EF xs.length ps (angleAt xs) (byteAt s) := by
  unfold rmany
  rw [rcount_pos, gen_perm hP]
  constructor
  · rintro ⟨L, hL, hr⟩
    obtain ⟨p, hp, rfl⟩ := List.mem_map.1 hL
    have hf := perm_f hP hp
    unfold rightB at hr
    rw [Bool.and_eq_true, hf.lv] at hr
    have hl : (invN xs.length p).length = xs.length := by simp [invN]
    exact ⟨_, hf.inv, (right_iff hl hs).1 hr.2⟩
  · rintro ⟨q, hq, h⟩
    have hf := perm_f hP hq
    have hf2 := perm_f hP hf.inv
    refine ⟨_, List.mem_map.2 ⟨_, hf.inv, rfl⟩, ?_⟩
    unfold rightB
    rw [hf2.ok, hf2.lv, hf.back, Bool.true_and]
    exact (right_iff hf.len hs).2 h
theorem ring_of {xs : List Int} {s : ByteArray} (hr : rvB xs s.data.toList = true) : RingF xs.length (angleAt xs) (byteAt s) := by
  unfold rvB at hr
  simp only [Bool.and_eq_true, decide_eq_true_eq] at hr
  obtain ⟨⟨⟨h1, h2⟩, h3⟩, h5⟩ := hr
  obtain ⟨l1, l6, hx⟩ := lvB_parts h1
  have hsz : xs.length = 2 ∨ xs.length = 4 ∨ xs.length = 6 := by omega
  refine ⟨hsz, fun k hk => (hx _ (angleAt_mem hk)).1, ?_, fvB_at h3⟩
  have hb : balGo 0 0 xs = 0 := of_decide_eq_true h5
  have key : ∀ (r : List Int) (k : Nat) (a : Int), (∀ j, j < r.length → angleAt xs (k + j) = r.getD j 0) → pl (angleAt xs) k = a → pl (angleAt xs) (k + r.length) = balGo k a r := by
    intro r
    induction r with
    | nil => intro k a _ h; simpa [balGo] using h
    | cons y t ih =>
      intro k a hj ha
      have h0 := hj 0 (by simp)
      rw [Nat.add_zero] at h0
      have : pl (angleAt xs) (k + (y :: t).length) = pl (angleAt xs) (k + 1 + t.length) := by congr 1; simp; omega
      rw [this]
      show _ = balGo (k + 1) (if k % 2 = 0 then a + y else a - y) t
      refine ih (k + 1) _ (fun j hj2 => ?_) ?_
      · have := hj (j + 1) (by simp; omega)
        rw [show k + 1 + j = k + (j + 1) from by omega, this]; simp
      · have : pl (angleAt xs) (k + 1) = if k % 2 = 0 then pl (angleAt xs) k + angleAt xs k else pl (angleAt xs) k - angleAt xs k := rfl
        rw [this, ha, h0]; simp
  have := key xs 0 0 (fun j hj => by rw [Nat.zero_add]; rfl) rfl
  rw [Nat.zero_add, hb] at this
  exact this
/-- a ring has right layers if and only if its crimps fold it -/
theorem ring_layers {xs : List Int} {s : ByteArray} (hr : rvB xs s.data.toList = true) : 0 < rmany xs s ↔ rfB xs s = true := by
  have hR := ring_of hr
  have hlen : xs.length = s.size := by
    have hrr := hr
    unfold rvB at hrr
    simp only [Bool.and_eq_true] at hrr
    have := ((fvB_iff _ _).1 hrr.1.2).1
    rw [size_list] at this
    omega
  rw [rfB_down, ← seg_word hlen]
  have key : 0 < rmany xs s ↔ Down (seg (angleAt xs) (byteAt s) 0 xs.length) := by
    rcases hR.size with e | e | e
    · rw [lay_count (ps := perms2) (by rw [e]; exact perm2) hR.shut]
      rw [e] at hR ⊢
      exact lay2 hR
    · rw [lay_count (ps := perms4) (by rw [e]; exact perm4) hR.shut]
      rw [e] at hR ⊢
      exact lay4 hR
    · rw [lay_count (ps := perms6) (by rw [e]; exact perm6) hR.shut]
      rw [e] at hR ⊢
      exact lay6 hR
  rw [key]
  exact ⟨fun h => ⟨hr, h⟩, fun h => h.2⟩
end Go.Proofs.Ytngpeehjjcgmmaa
namespace Go.Proofs.Ytngpeehjjcgmmaa
open Go.RowKit

/-- what lies at H0 or behind stays -/
def Kp (H0 : Nat) (W W' : World) : Prop := W.heap.size ≤ W'.heap.size ∧ ∀ g, H0 ≤ g → g < W.heap.size → W'.heap[g]? = W.heap[g]?
theorem Kp.trans {H0 : Nat} {a b c : World} (h : Kp H0 a b) (h' : Kp H0 b c) : Kp H0 a c :=
  ⟨Nat.le_trans h.1 h'.1, fun g h1 h2 => (h'.2 g h1 (Nat.lt_of_lt_of_le h2 h.1)).trans (h.2 g h1 h2)⟩
theorem Kp.of_grown {H0 c : Nat} {W W' : World} (h : W.grownBy W' (some c)) (hc : c < H0) : Kp H0 W W' :=
  ⟨h.size, fun g h1 h2 => h.block g h2 (by intro e; have := Option.some.inj e; omega)⟩
theorem Kp.of_below {H0 : Nat} {W W' : World} (h : Below W.heap.size W W') : Kp H0 W W' := ⟨h.size, fun g _ h2 => h.block g h2⟩
theorem Kp.own {H0 B : Nat} {W W' : World} {e : TypeId} {z n : Nat} {v : Value} {L : List Value} (h : Kp H0 W W') (ho : W.ownsRow B e z v n L) (hB : H0 ≤ B) : W'.ownsRow B e z v n L := by
  refine ⟨ho.1, ?_⟩
  rcases ho.2 with h0 | ⟨g, cap, cur, h1, h2, h3, h4⟩
  · exact Or.inl h0
  · exact Or.inr ⟨g, cap, cur, h1, h2, (h.2 g (by omega) (Array.getElem?_eq_some_iff.1 h3).1).trans h3, h4⟩
/-- what is found among the first j ways to go on -/
def foTo (n k : Nat) (P : List Int → Bool) (xs : List Int) (j : Nat) : Option (List Int) := ((List.range j).flatMap fun (j : Nat) => if (j : Int) ∈ xs then [] else genO n k (xs ++ [(j : Int)])).find? P
theorem foTo_succ (n k : Nat) (P : List Int → Bool) (xs : List Int) (j : Nat) : foTo n k P xs (j + 1) = (foTo n k P xs j).or (if (j : Int) ∈ xs then none else (genO n k (xs ++ [(j : Int)])).find? P) := by
  unfold foTo
  rw [List.range_succ, List.flatMap_append, List.find?_append]
  congr 1
  simp only [List.flatMap_cons, List.flatMap_nil, List.append_nil]
  split <;> simp
theorem foTo_some {n k : Nat} {P : List Int → Bool} {xs L : List Int} {j : Nat} (h : foTo n k P xs j = some L) : ∀ m, j ≤ m → foTo n k P xs m = some L := by
  intro m
  induction m with
  | zero => intro hj; have : j = 0 := by omega
            rw [← this]; exact h
  | succ m ih =>
    intro hj
    by_cases e : j = m + 1
    · rw [← e]; exact h
    · rw [foTo_succ, ih (by omega)]; rfl
theorem gen_foTo (n k : Nat) (P : List Int → Bool) (xs : List Int) : (genO n (k + 1) xs).find? P = foTo n k P xs n := rfl
set_option maxHeartbeats 4000000 in
set_option maxRecDepth 100000 in
theorem impl_eachOrderF (H0 go gu n q2 q3 : Nat) (P : List Int → Bool) (I0 : World → Prop) (I1 : List Int → World → Prop) (hI0 : ∀ W W', I0 W → Below H0 W W' → I0 W') (hI1 : ∀ L us W W', I1 L W → OwnBo W H0 (.slice (some ⟨gu, 0, none⟩) n n) n us → W.grownBy W' (some gu) → I1 L W') (hz : ∀ W, I0 W → H0 ≤ W.heap.size) (hn : n ≤ 100) (hgu : go ≠ gu)
    (HV : ∀ W cap xs, I0 W → xs.length = n → (∀ x ∈ xs, 0 ≤ x ∧ x < (n : Int)) → Ints W (some ⟨go, 0, none⟩) xs → Calls Try.prog 67 #[.slice (some ⟨go, 0, none⟩) n cap, ptr q2, ptr q3] W fun e W' => e = .returned (.bool (!P xs)) ∧ (P xs = false → I0 W') ∧ (P xs = true → I1 xs W') ∧ Kp H0 W W') (k : Nat) :
    ∀ (xs : List Int) (W : World), xs.length + k = n → (∀ x ∈ xs, 0 ≤ x ∧ x < (n : Int)) → OwnJ W H0 (.slice (some ⟨go, 0, none⟩) xs.length n) xs.length xs → OwnBo W H0 (.slice (some ⟨gu, 0, none⟩) n n) n (usL n xs) → I0 W →
      Calls Try.prog 66 #[.slice (some ⟨go, 0, none⟩) xs.length n, .slice (some ⟨gu, 0, none⟩) n n, .func (.func 67) #[] #[ptr q2, ptr q3]] W fun e W' => e = .returned (.bool ((genO n k xs).find? P).isNone) ∧ OwnJ W' H0 (.slice (some ⟨go, 0, none⟩) xs.length n) xs.length xs ∧ OwnBo W' H0 (.slice (some ⟨gu, 0, none⟩) n n) n (usL n xs) ∧ (∀ L, (genO n k xs).find? P = some L → I1 L W') ∧ ((genO n k xs).find? P = none → I0 W') := by
  induction k with
  | zero =>
    intro xs W hx hb ho hu hi
    have hxn : xs.length = n := by omega
    have HVx := Lib.hid (HV W n xs hi hxn hb (Ints.of_own ho))
    have HO := Lib.hid ho
    have HU := Lib.hid hu
    have HG : Hid ((genO n 0 xs).find? P = if P xs then some xs else none) := by
      show _ = _
      simp only [genO, List.find?_cons, List.find?_nil]
      cases P xs <;> rfl
    obtain ⟨fo, hfo⟩ : ∃ fo, fo = (genO n 0 xs).find? P := ⟨_, rfl⟩
    rw [← hfo] at HG ⊢
    obtain ⟨m, hm⟩ : ∃ m, m = xs.length := ⟨_, rfl⟩
    have HM := Lib.hid hm
    rw [← hm] at hxn HO ⊢
    subst hxn
    clear HV ho hu hi hx hb hm hI0 hI1 hz hfo
    cases hp : P xs with
    | false =>
      rw [hp] at HVx HG
      have hfo : fo = none := HG.out
      subst hfo
      clear hp HG
      go_enter Try.func66, Try.ntmps66
      go_wp2_with fail
      refine HVx.out.mono ?_
      rintro e w1 ⟨rfl, hi1, _, hk1⟩
      have HO1 := Lib.hid (hk1.own HO.out (Nat.le_refl _))
      have HU1 := Lib.hid (hk1.own HU.out (Nat.le_refl _))
      have HI1 := Lib.hid (hi1 trivial)
      clear hi1 hk1
      go_wp2_with fail
      go_ret
      first | exact ⟨rfl, HO1.out, HU1.out, HI1.out⟩ | exact ⟨rfl, HO1.out, HU1.out, fun L e => (by cases e), fun _ => HI1.out⟩
    | true =>
      rw [hp] at HVx HG
      have hfo : fo = some xs := HG.out
      subst hfo
      clear hp HG
      go_enter Try.func66, Try.ntmps66
      go_wp2_with fail
      refine HVx.out.mono ?_
      rintro e w1 ⟨rfl, _, hi1, hk1⟩
      have HO1 := Lib.hid (hk1.own HO.out (Nat.le_refl _))
      have HU1 := Lib.hid (hk1.own HU.out (Nat.le_refl _))
      have HI1 := Lib.hid (hi1 trivial)
      clear hi1 hk1
      go_wp2_with fail
      go_ret
      first | exact ⟨rfl, HO1.out, HU1.out, HI1.out⟩ | exact ⟨rfl, HO1.out, HU1.out, fun L e => (by cases e; exact HI1.out), fun e => (by cases e)⟩
  | succ k ih =>
    intro xs W hx hb ho hu hi
    have HREC := Lib.hid ih
    have HKN : Hid (xs.length + 1 + k = n) := by show _ = _; omega
    obtain ⟨m, hm⟩ : ∃ m, m = xs.length := ⟨_, rfl⟩
    have HM := Lib.hid hm
    have HX := Lib.hid hb
    have HII := Lib.hid hI0
    have HI11 := Lib.hid hI1
    have HZZ := Lib.hid hz
    have hmn : m < n := by omega
    have d0 : ((m : Int) == (n : Int)) = false := by rw [beq_eq_false_iff_ne]; omega
    rw [← hm] at ho HKN ⊢
    have HO := Lib.hid ho
    have HU := Lib.hid hu
    have HI := Lib.hid hi
    have HF0 : Hid (foTo n k P xs 0 = none) := rfl
    have HFG := Lib.hid (gen_foTo n k P xs)
    obtain ⟨fo, hfo⟩ : ∃ fo, fo = (genO n (k + 1) xs).find? P := ⟨_, rfl⟩
    rw [← hfo] at HFG ⊢
    clear ih HV ho hu hi hx hb hm hI0 hI1 hz hfo
    go_enter Try.func66, Try.ntmps66
    go_wp2_with fail
    go_loopg [7, 8, 19] (n + 1) (fun g s7 s8 s19 wr => ∃ (j : Nat), s7 = s7 ∧ s8 = s8 ∧ j ≤ n ∧ s19 = .int .i64 j ∧ n - j < g ∧ Hid (OwnJ wr H0 (.slice (some ⟨go, 0, none⟩) m n) m xs) ∧ Hid (OwnBo wr H0 (.slice (some ⟨gu, 0, none⟩) n n) n (usL n xs)) ∧ Hid (I0 wr) ∧ Hid (foTo n k P xs j = none))
    case atStart => exact ⟨0, rfl, rfl, Nat.zero_le _, rfl, by omega, HO, HU, HI, HF0⟩
    case round =>
      clear HO HU HI HF0
      obtain ⟨j, _, _, hj, rfl, hg, HO, HU, HI, HFO⟩ := hrel
      cases gk with
      | zero => omega
      | succ g =>
      by_cases hlt : j < n
      · obtain ⟨u1, u2⟩ := own_cellB HU.out hlt (usL_get xs hlt)
        have j1 : (j : Int) < (n : Int) := by omega
        have j0 : (0 : Int) ≤ (j : Int) := by omega
        have HFS := Lib.hid (foTo_succ n k P xs j)
        by_cases hin : (j : Int) ∈ xs
        · rw [decide_eq_true hin] at u1
          have HF2 : Hid (foTo n k P xs (j + 1) = none) := by
            show _ = _
            rw [HFS.out, HFO.out, if_pos hin]; rfl
          clear hin
          go_wp2_with fail
          go_roundg g
          case measure => omega
          case rel => exact ⟨j + 1, trivial, trivial, by omega, by go_num, by omega, HO, HU, HI, HF2⟩
        · rw [decide_eq_false hin] at u1
          obtain ⟨o2, b2⟩ := own_setB HU.out j true
          rw [usL_add xs hlt] at o2
          have HU2 := Lib.hid o2
          have hgg : H0 ≤ go ∧ go < wr.heap.size := HO.out.lt go rfl
          have hgg2 : H0 ≤ gu ∧ gu < wr.heap.size := HU.out.lt gu rfl
          have HO2 := Lib.hid (HO.out.kept (grown_setC wr gu j (.bool true)) (Or.inr (by intro e; exact hgu (Option.some.inj e))))
          have HI2 := Lib.hid (HII.out _ _ HI.out b2)
          have HNI := Lib.hid hin
          have hz0 := HZZ.out _ HI2.out
          clear o2 b2 hin
          go_upto_region 8 with (fail)
          obtain ⟨w2, hw2⟩ : ∃ w2, w2 = wr.setCell ⟨gu, j, none⟩ (.bool true) := ⟨_, rfl⟩
          rw [← hw2] at HU2 HO2 HI2 hz0 ⊢
          clear hw2
          go_wp2_with (at_builtin; go_loud (refine wpList_pushR (W := w2) rfl _ _ rfl H0 go m n xs (j : Int) (by rfl) (by rfl) HO2.out hz0 (by omega) (by omega) ?_))
          intro w3 ho3 hg3
          have HU3 := Lib.hid (HU2.out.kept hg3 (Or.inr (by intro e; exact hgu (Option.some.inj e).symm)))
          have HI3 := Lib.hid (HII.out _ _ HI2.out ((Below.refl _ _).grown hg3 hz0 (by intro q hq; cases hq; exact hgg.1)))
          have hl1 : (xs ++ [(j : Int)]).length = m + 1 := by rw [List.length_append, ← HM.out]; rfl
          have hcall := HREC.out (xs ++ [(j : Int)]) w3 (by rw [hl1]; have := HKN.out; omega) (by
            intro x hx
            rcases List.mem_append.1 hx with h | h
            · exact HX.out x h
            · rw [List.mem_singleton] at h; subst h; omega) (by rw [hl1]; exact ho3) HU3.out HI3.out
          rw [hl1] at hcall
          have HCALL := Lib.hid hcall
          obtain ⟨f2, hf2⟩ : ∃ f2, f2 = (genO n k (xs ++ [(j : Int)])).find? P := ⟨_, rfl⟩
          have HFN : Hid (foTo n k P xs (j + 1) = f2) := by
            show _ = _
            rw [HFS.out, HFO.out, if_neg HNI.out, hf2]; rfl
          rw [← hf2] at HCALL
          clear ho3 hg3 hl1 hcall HO2 HU2 HI2 HO hf2 HFS
          cases f2 with
          | none =>
            go_wp2_with fail
            refine HCALL.out.mono ?_
            rintro e w4 ⟨rfl, ho4, hu4, _, hi4⟩
            obtain ⟨u3, u4⟩ := own_cellB hu4 hlt (usL_get (xs ++ [(j : Int)]) hlt)
            obtain ⟨o5, b5⟩ := own_setB hu4 j false
            rw [usL_back hlt HNI.out] at o5
            have HU5 := Lib.hid o5
            have HO5 := Lib.hid (own_head HM.out.symm (ho4.kept (grown_setC w4 gu j (.bool false)) (Or.inr (by intro e; exact hgu (Option.some.inj e)))))
            have HI5 : Hid (I0 (w4.setCell ⟨gu, j, none⟩ (.bool false))) := HII.out _ _ (hi4 trivial) b5
            clear o5 b5 ho4 hu4 hi4 HCALL
            go_wp2_with fail
            go_roundg g
            case measure => omega
            case rel => exact ⟨j + 1, trivial, trivial, by omega, by go_num, by omega, HO5, HU5, HI5, HFN⟩
          | some L =>
            have hff : fo = some L := by rw [HFG.out]; exact foTo_some HFN.out n (by omega)
            subst hff
            go_wp2_with fail
            refine HCALL.out.mono ?_
            rintro e w4 ⟨rfl, ho4, hu4, hi4, _⟩
            obtain ⟨u3, u4⟩ := own_cellB hu4 hlt (usL_get (xs ++ [(j : Int)]) hlt)
            obtain ⟨o5, b5⟩ := own_setB hu4 j false
            rw [usL_back hlt HNI.out] at o5
            have HU5 := Lib.hid o5
            have HO5 := Lib.hid (own_head HM.out.symm (ho4.kept (grown_setC w4 gu j (.bool false)) (Or.inr (by intro e; exact hgu (Option.some.inj e)))))
            have HI5 : Hid (I1 L (w4.setCell ⟨gu, j, none⟩ (.bool false))) := HI11.out _ _ _ _ (hi4 L rfl) hu4 (grown_setC w4 gu j (.bool false))
            clear o5 b5 ho4 hu4 hi4 HCALL
            go_wp2_with fail
            go_ret
            first | exact ⟨rfl, HO5.out, HU5.out, HI5.out⟩ | exact ⟨rfl, HO5.out, HU5.out, fun L' e => (by cases e; exact HI5.out), fun e => (by cases e)⟩
      · obtain rfl : j = n := by omega
        have hff : fo = none := by rw [HFG.out]; exact HFO.out
        subst hff
        go_wp2_with fail
        go_ret
        first | exact ⟨rfl, HO.out, HU.out, HI.out⟩ | exact ⟨rfl, HO.out, HU.out, fun L e => (by cases e), fun _ => HI.out⟩
end Go.Proofs.Ytngpeehjjcgmmaa
