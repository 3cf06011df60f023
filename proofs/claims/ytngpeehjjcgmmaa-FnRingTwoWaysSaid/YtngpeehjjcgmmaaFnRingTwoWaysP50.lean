/- Folds of parts laid flat, the reference's way: do two lie apart. No condition but sizes. The folds of a strip or a ring, the reference's way. No condition but sizes. -/
import Derived.Test.YtngpeehjjcgmmaaFnRingTwoWaysP49
namespace Go.Proofs.Ytngpeehjjcgmmaa
open Go.RowKit

/-- a fold as the reference has it: two parts, a place, a letter -/
abbrev Fq := Nat × Nat × Int × UInt8
def fqV (f : Fq) : List Value := [.int .i64 f.1, .int .i64 f.2.1, .int .i64 f.2.2.1, .int .u8 (f.2.2.2.toNat : Int)]
def fqA (f : Fq) : Value := .agg #[.int .i64 f.1, .int .i64 f.2.1, .int .i64 f.2.2.1, .int .u8 (f.2.2.2.toNat : Int)]
theorem boolD {u v : Bool} (h : u = true ↔ v = true) : u = v := by cases u <;> cases v <;> simp_all
theorem beqB_iff {u v : Bool} : (u == v) = true ↔ (u = true ↔ v = true) := by cases u <;> cases v <;> decide
/-- do two folds lie apart -/
def apartB (lv : List Int) (f g : Fq) : Bool := betB (lv.getD g.1 0) (lv.getD f.1 0) (lv.getD f.2.1 0) == betB (lv.getD g.2.1 0) (lv.getD f.1 0) (lv.getD f.2.1 0)
set_option maxHeartbeats 2000000 in
set_option maxRecDepth 100000 in
theorem spec_l2Apart (A : Option Addr) (cap a b a' b' : Nat) (pf pg : Int) (zf zg : UInt8) (lv : List Int) (w : World) (h : Ints w A lv) (hl : lv.length ≤ 1000) (h1 : a < lv.length) (h2 : b < lv.length) (h3 : a' < lv.length) (h4 : b' < lv.length) :
    Calls Try.prog 73 #[.slice A lv.length cap, fqA (a, b, pf, zf), fqA (a', b', pg, zg)] w fun e w' => e = .returned (.bool (apartB lv (a, b, pf, zf) (a', b', pg, zg))) ∧ Below w.heap.size w w' := by
  obtain ⟨bk, off, rfl, hb, c1⟩ := ints_get h h1
  obtain ⟨_, _, e2, _, c2⟩ := ints_get h h2
  cases e2
  obtain ⟨_, _, e3, _, c3⟩ := ints_get h h3
  cases e3
  obtain ⟨_, _, e4, _, c4⟩ := ints_get h h4
  cases e4
  have HE : Hid (apartB lv (a, b, pf, zf) (a', b', pg, zg) = (betB (lv.getD a' 0) (lv.getD a 0) (lv.getD b 0) == betB (lv.getD b' 0) (lv.getD a 0) (lv.getD b 0))) := rfl
  obtain ⟨la, hla⟩ : ∃ x, x = lv.getD a 0 := ⟨_, rfl⟩
  obtain ⟨lb, hlb⟩ : ∃ x, x = lv.getD b 0 := ⟨_, rfl⟩
  obtain ⟨lc, hlc⟩ : ∃ x, x = lv.getD a' 0 := ⟨_, rfl⟩
  obtain ⟨ld, hld⟩ : ∃ x, x = lv.getD b' 0 := ⟨_, rfl⟩
  rw [← hla, ← hlb, ← hlc, ← hld] at HE
  rw [← hla] at c1
  rw [← hlb] at c2
  rw [← hlc] at c3
  rw [← hld] at c4
  have i1 : (a : Int) < (lv.length : Int) := by omega
  have i2 : (b : Int) < (lv.length : Int) := by omega
  have i3 : (a' : Int) < (lv.length : Int) := by omega
  have i4 : (b' : Int) < (lv.length : Int) := by omega
  have j1 : (0 : Int) ≤ (a : Int) := by omega
  have j2 : (0 : Int) ≤ (b : Int) := by omega
  have j3 : (0 : Int) ≤ (a' : Int) := by omega
  have j4 : (0 : Int) ≤ (b' : Int) := by omega
  have hbs : bk < w.heap.size + 1 := by omega
  have n1 : bk ≠ w.heap.size := by omega
  have n2 : bk ≠ w.heap.size + 1 := by omega
  clear hla hlb hlc hld h h1 h2 h3 h4 hl
  unfold fqA
  go_enter Try.func73, Try.ntmps73
  go_wp2_with fail
  go_quiet (fail)
  go_wp2_with fail
  all_goals
    go_quiet (fail)
    go_wp2_with fail
  all_goals first
    | (go_ret
       refine ⟨ret_bool ?_, below_drewN (((Below.refl _ _).alloc (Nat.le_refl _) _).alloc (by simp) _) _⟩
       rw [HE.out]
       apply boolD
       unfold betB
       simp only [beqB_iff, Bool.and_eq_true, decide_eq_true_eq, Bool.not_eq_true', decide_eq_false_iff_not, Bool.false_eq_true, false_iff, true_iff, iff_true, iff_false]
       omega)
    | (trace_state; sorry)
end Go.Proofs.Ytngpeehjjcgmmaa
namespace Go.Proofs.Ytngpeehjjcgmmaa
open Go.RowKit

def fqL (fs : List Fq) : List Value := fs.flatMap fqV
theorem fqL_len (fs : List Fq) : (fqL fs).length = fs.length * 4 := by
  induction fs with
  | nil => rfl
  | cons f r ih =>
    show (fqV f ++ fqL r).length = _
    rw [List.length_append, ih, List.length_cons]
    show 4 + _ = _
    omega
theorem fqL_snoc (a : List Fq) (f : Fq) : fqL (a ++ [f]) = fqL a ++ fqV f := by simp [fqL]
theorem fqL_get {fs : List Fq} {k j : Nat} (hk : k < fs.length) (hj : j < 4) : (fqL fs)[k * 4 + j]? = (fqV fs[k])[j]? := by
  induction fs generalizing k with
  | nil => simp at hk
  | cons f r ih =>
    show (fqV f ++ fqL r)[k * 4 + j]? = _
    have h4 : (fqV f).length = 4 := rfl
    cases k with
    | zero =>
      rw [Nat.zero_mul, Nat.zero_add, List.getElem?_append_left (by omega)]; rfl
    | succ k =>
      rw [List.getElem?_append_right (by omega), h4, show (k + 1) * 4 + j - 4 = k * 4 + j from by omega]
      exact ih (by simpa using hk)
theorem fq_one (f : Fq) : ∀ u ∈ fqV f, u.oneCell' = true := by
  intro u hu
  simp only [fqV, List.mem_cons, List.not_mem_nil, or_false] at hu
  rcases hu with rfl | rfl | rfl | rfl <;> rfl
/-- the folds between parts that follow each other -/
def fqTo (xs : List Int) (t : List UInt8) (k : Nat) : List Fq := (List.range k).map fun j => (j, j + 1, plcAt xs (j + 1), t.getD j 0)
theorem fqTo_succ (xs : List Int) (t : List UInt8) (k : Nat) : fqTo xs t (k + 1) = fqTo xs t k ++ [(k, k + 1, plcAt xs (k + 1), t.getD k 0)] := by simp [fqTo, List.range_succ]
theorem fqTo_len (xs : List Int) (t : List UInt8) (k : Nat) : (fqTo xs t k).length = k := by simp [fqTo]
theorem own_lowQ {w : World} {B B' : Nat} {e : TypeId} {z n : Nat} {v : Value} {xs : List Value} (h : w.ownsRow B e z v n xs) (hB : B' ≤ B) : w.ownsRow B' e z v n xs := by
  refine ⟨h.1, ?_⟩
  rcases h.2 with e | ⟨g, cp, cur, e1, e2, e3⟩
  · exact Or.inl e
  · exact Or.inr ⟨g, cp, cur, e1, Nat.le_trans hB e2, e3⟩
set_option maxHeartbeats 4000000 in
set_option maxRecDepth 100000 in
theorem spec_l2AllFolds_ring (A : Option Addr) (cap : Nat) (xs : List Int) (s : ByteArray) (w : World) (h : Ints w A xs) (hl : xs.length ≤ 100) (hx : ∀ x ∈ xs, 0 ≤ x ∧ x ≤ 1000) (h1 : 1 ≤ xs.length) (hs : s.size = xs.length) :
    Calls Try.prog 71 #[.slice A xs.length cap, .string s, .bool true] w fun e w' => ∃ v, e = .returned v ∧ OwnL w' w.heap.size v xs.length (fqL ((xs.length - 1, 0, 0, s.data.toList.getD 0 0) :: fqTo xs (s.data.toList.drop 1) (xs.length - 1))) ∧ Below w.heap.size w w' := by
  have HPL := Lib.hid (spec_l2Places A cap xs w h hl hx)
  have HX := Lib.hid hx
  have HS := Lib.hid hs
  have s0 : (0 : Int) < (s.size : Int) := by omega
  have s1 : (1 : Int) ≤ (s.size : Int) := by omega
  have s0' : 0 < s.size := by omega
  obtain ⟨n1, hn1⟩ : ∃ n1, n1 = xs.length - 1 := ⟨_, rfl⟩
  have kw : IntKind.i64.wrap ((xs.length : Int) - 1) = ((n1 : Nat) : Int) := (IntWalk.i64_in _ (by omega)).trans (by omega)
  rw [← hn1]
  have hn2 : xs.length = n1 + 1 := by omega
  have HN2 := Lib.hid hn2
  have hnl : n1 ≤ 100 := by omega
  clear h hx hs hn1 hn2
  go_enter Try.func71, Try.ntmps71
  go_wp2_with fail
  refine HPL.out.mono ?_
  rintro e w1 ⟨vp, rfl, hop, hb1⟩
  obtain ⟨Ap, cp, rfl, hip, _, _⟩ := Own.form hop
  have HIP := Lib.hid hip
  have HB1 := Lib.hid hb1
  clear hop hip hb1 HPL
  go_upto_region 3 with (fail)
  obtain ⟨w2, hw2⟩ : ∃ y, y = w1.alloc (.cells #[] 89) := ⟨_, rfl⟩
  have HB2 : Hid (Below w1.heap.size w1 w2) := by show Below _ _ _; rw [hw2]; exact (Below.refl _ _).alloc (Nat.le_refl _) _
  have HO2 : Hid (OwnL w2 w1.heap.size (.slice (some ⟨w1.heap.size, 0, none⟩) 0 0) 0 []) := by
    show OwnL _ _ _ _ _
    rw [hw2]; exact World.ownsRow_lit w1 #[] 0 (Nat.le_refl _) (by unfold maxLen; omega) rfl
  rw [← hw2]
  clear hw2
  obtain ⟨z0, hz0⟩ : ∃ z, z = s[0] := ⟨_, rfl⟩
  have hz0' : s.data.toList.getD 0 0 = z0 := by
    rw [hz0, List.getD_eq_getElem?_getD, List.getElem?_eq_getElem (show 0 < s.data.toList.length by rw [Array.length_toList]; exact s0')]; rfl
  have HN := Lib.hid (RowV.lit w2 (fqV (n1, 0, 0, z0)) 89)
  have hsz2 := HB2.out.size
  have hown2 : OwnL (w2.alloc (.cells (fqV (n1, 0, 0, z0)).toArray 89)) w1.heap.size (.slice (some ⟨w1.heap.size, 0, none⟩) 0 0) 0 [] := HO2.out.alloc _
  have HOA := Lib.hid hown2
  have HE0 := Lib.hid hz0'
  have u0 : ((s[0]).toNat : Int) = (z0.toNat : Int) := by rw [hz0]
  have HU0 : Hid (#[Value.int .i64 (n1 : Int), .int .i64 0, .int .i64 0, .int .u8 ((s[0]).toNat : Int)] = (fqV (n1, 0, 0, z0)).toArray) := by show _ = _; rw [u0]; rfl
  clear hown2 hz0 hz0' u0
  go_wp2_with (at_builtin; go_loud (rw [HU0.out]; refine wpList_appL (W := w2.alloc (.cells (fqV (n1, 0, 0, z0)).toArray 89)) rfl _ _ rfl w1.heap.size _ 0 [] _ 1 _ (fqV (n1, 0, 0, z0)) (by rfl) (by rfl) HOA.out rfl (fun e => by cases e) HN.out.news (fq_one _) (Nat.le_trans hsz2 (by simp)) (by omega) ?_))
  intro v3 w3 ho3 hg3 hb3 _
  obtain ⟨pre, hpre⟩ : ∃ pre, pre = fqV (n1, 0, 0, z0) := ⟨_, rfl⟩
  have HO3 : Hid (OwnL w3 w1.heap.size v3 (1 + 0) (pre ++ fqL (fqTo xs (s.data.toList.drop 1) 0))) := by
    show OwnL _ _ _ _ _
    have : pre ++ fqL (fqTo xs (s.data.toList.drop 1) 0) = fqV (n1, 0, 0, z0) := by rw [hpre]; simp [fqL, fqTo]
    rw [this]; exact ho3
  have HB3 : Hid (Below w1.heap.size w1 w3) := (HB2.out.alloc HB2.out.size _).trans hb3
  have HPRE := Lib.hid hpre
  obtain ⟨t, ht⟩ : ∃ t, t = s.extract 1 s.size := ⟨_, rfl⟩
  have htl : t.data.toList = s.data.toList.drop 1 := by
    rw [ht, ByteArray.data_extract, Array.toList_extract, List.extract_eq_take_drop]
    exact List.take_of_length_le (by rw [List.length_drop, Array.length_toList]; exact Nat.le_refl _)
  have hts : t.size = n1 := by
    have h1 : t.data.toList.length = t.size := Array.length_toList
    rw [htl, List.length_drop] at h1
    have h2 : s.data.toList.length = s.size := Array.length_toList
    have := HS.out
    have := HN2.out
    omega
  have ht' : s.extract 1 s.size = t := ht.symm
  have HTL := Lib.hid htl
  have HTS := Lib.hid hts
  rw [← htl] at HO3
  clear ho3 hg3 hb3 HOA HN HB2 HO2 hsz2 hpre ht htl hts
  go_wp2_with fail
  clear ht'
  go_loopg [8, 10] (n1 + 1) (fun gg s8 s10 wr => ∃ (k : Nat), k ≤ n1 ∧ s10 = .int .i64 k ∧ n1 - k < gg ∧ Hid (OwnL wr w1.heap.size s8 (1 + k) (pre ++ fqL (fqTo xs t.data.toList k))) ∧ Hid (Below w1.heap.size w1 wr))
  case atStart => exact ⟨0, Nat.zero_le _, rfl, by omega, HO3, HB3⟩
  case round =>
    clear HO3 HB3
    obtain ⟨k, hk, rfl, hg, HO, HB⟩ := hrel
    cases gk with
    | zero => omega
    | succ gl =>
    have kw2 : IntKind.i64.wrap ((k : Int) + 1) = (k : Int) + 1 := IntWalk.i64_in _ (by omega)
    by_cases hlt : k < n1
    · have htsz := HTS.out
      have hxl := HN2.out
      have k1 : (k : Int) + 1 < (xs.length : Int) := by omega
      have k1n : k + 1 < xs.length := by omega
      have k0 : (0 : Int) ≤ (k : Int) := by omega
      have k00 : (0 : Int) ≤ (k : Int) + 1 := by omega
      have k2 : (k : Int) < (t.size : Int) := by omega
      have k2n : k < t.size := by omega
      have hpl : (plcL xs).length = xs.length + 1 := plcL_len xs
      have k3 : (k : Int) + 1 < ((plcL xs).length : Int) := by rw [hpl]; omega
      obtain ⟨b, off, rfl, hbb, hc⟩ := (HIP.out.below HB.out) (by intro e; have := congrArg List.length e; rw [hpl] at this; simp at this)
      have r1 := hc (k + 1) (plcAt xs (k + 1)) (plcTo_get (by omega))
      obtain ⟨p, hp⟩ : ∃ p, p = plcAt xs (k + 1) := ⟨_, rfl⟩
      obtain ⟨z, hz⟩ : ∃ z, z = t[k] := ⟨_, rfl⟩
      have hzg : t.data.toList.getD k 0 = z := by
        rw [hz, List.getD_eq_getElem?_getD, List.getElem?_eq_getElem (show k < t.data.toList.length by rw [Array.length_toList]; exact k2n)]; rfl
      have hT := fqTo_succ xs t.data.toList k
      rw [← hp] at r1 hT
      rw [hzg] at hT
      have u0 : ((t[k]).toNat : Int) = (z.toNat : Int) := by rw [hz]
      have HU : Hid (#[Value.int .i64 (k : Int), .int .i64 ((k : Int) + 1), .int .i64 p, .int .u8 ((t[k]).toNat : Int)] = (fqV (k, k + 1, p, z)).toArray) := by show _ = _; rw [u0]; rfl
      have HT2 : Hid (pre ++ fqL (fqTo xs t.data.toList (k + 1)) = (pre ++ fqL (fqTo xs t.data.toList k)) ++ fqV (k, k + 1, p, z)) := by show _ = _; rw [hT, fqL_snoc, List.append_assoc]
      have HNN := Lib.hid (fun W : World => RowV.lit W (fqV (k, k + 1, p, z)) 89)
      have hsz := HB.out.size
      clear hc hp hzg hz hT u0 hxl htsz hpl
      go_wp2_with fail
      go_region_law (rw [HU.out]; refine step_appL (by rfl) _ _ (by rfl) w1.heap.size _ (1 + k) (pre ++ fqL (fqTo xs t.data.toList k)) _ 1 _ (fqV (k, k + 1, p, z)) (by rfl) (by rfl) (own_below2' HO.out ((below_drewN (Below.refl _ _) 1).alloc (Nat.le_refl _) _)) rfl (fun e => by cases e) (HNN.out _).news (fq_one _) (Nat.le_trans hsz (by simp)) (by omega) ?_; intro v4 w4 ho4 hg4 hb4 _ _)
      all_goals
        have HO4 : Hid (OwnL w4 w1.heap.size v4 (1 + (k + 1)) (pre ++ fqL (fqTo xs t.data.toList (k + 1)))) := by
          show OwnL _ _ _ _ _
          rw [HT2.out]; exact ho4
        have HB4 : Hid (Below w1.heap.size w1 w4) := HB.out.trans ((((below_drewN (Below.refl wr.heap.size wr) 1).alloc (Nat.le_refl _) _).mono hsz).trans hb4)
        clear ho4 hg4 hb4
        go_wp2_with fail
        go_roundg gl
        case measure => omega
        case rel => exact ⟨k + 1, by omega, by go_num, by omega, HO4, HB4⟩
    · obtain rfl : k = n1 := by omega
      have hkn := HN2.out
      have d1 : decide ((k : Int) + 1 < (xs.length : Int)) = false := by simp; omega
      have HOF : Hid (OwnL wr w.heap.size u8 xs.length (fqL ((k, 0, 0, s.data.toList.getD 0 0) :: fqTo xs (s.data.toList.drop 1) k))) := by
        show OwnL _ _ _ _ _
        have h1 := own_lowQ HO.out HB1.out.size
        have e : fqL ((k, 0, 0, s.data.toList.getD 0 0) :: fqTo xs (s.data.toList.drop 1) k) = pre ++ fqL (fqTo xs t.data.toList k) := by
          rw [HPRE.out, HTL.out, HE0.out]; rfl
        rw [e, show xs.length = 1 + k from by omega]
        exact h1
      clear hkn
      go_wp2_with fail
      go_ret
      exact ⟨_, rfl, HOF.out, HB1.out.trans (HB.out.mono HB1.out.size)⟩
end Go.Proofs.Ytngpeehjjcgmmaa
