/- Parts laid flat, the reference's way: what covers a place, which folds lie apart, levels. No condition but sizes. Folds of parts laid flat, the reference's way: do two lie apart. No condition but sizes. The folds of a strip or a ring, the reference's way. No condition but sizes. Right layers, the reference's way. No condition but sizes. -/
import Derived.Test.YtkdlipbegdiaaaaGreatDoorEzBP28
namespace Go.Proofs.YtkdlipbegdiaaaaGreatDoor
open Go.RowKit
theorem ints_get {w : World} {A : Option Addr} {xs : List Int} (h : Ints w A xs) {k : Nat} (hk : k < xs.length) : ∃ b off, A = some ⟨b, off, none⟩ ∧ b < w.heap.size ∧ w.cell? ⟨b, off + k, none⟩ = some (.int .i64 (xs.getD k 0)) := by
  obtain ⟨b, off, e, hb, hc⟩ := h (by intro e; rw [e] at hk; simp at hk)
  exact ⟨b, off, e, hb, hc k _ (getD_of hk)⟩
set_option maxHeartbeats 1000000 in
set_option maxRecDepth 100000 in
theorem spec_l2Covers (A : Option Addr) (cap k : Nat) (ps : List Int) (p : Int) (w : World) (h : Ints w A ps) (hk : k + 1 < ps.length) (hl : ps.length ≤ 1000) :
    Calls Tryz.prog 71 #[.slice A ps.length cap, .int .i64 k, .int .i64 p] w fun e w' => e = .returned (.bool (insB ps p k)) ∧ ∃ m, w.drewN m = w' := by
  obtain ⟨b, off, rfl, hb, c0⟩ := ints_get h (show k < ps.length by omega)
  obtain ⟨b', off', e', _, c1⟩ := ints_get h hk
  cases e'
  have HE : Hid (insB ps p k = (decide (min (ps.getD k 0) (ps.getD (k + 1) 0) < p) && decide (p < max (ps.getD k 0) (ps.getD (k + 1) 0)))) := rfl
  obtain ⟨x, hx⟩ : ∃ x, x = ps.getD k 0 := ⟨_, rfl⟩
  obtain ⟨y, hy⟩ : ∃ y, y = ps.getD (k + 1) 0 := ⟨_, rfl⟩
  rw [← hx] at c0 HE
  rw [← hy] at c1 HE
  have k0 : (0 : Int) ≤ (k : Int) := by omega
  have k1 : (k : Int) < (ps.length : Int) := by omega
  have k2 : (0 : Int) ≤ (k : Int) + 1 := by omega
  have k3 : (k : Int) + 1 < (ps.length : Int) := by omega
  have kw : IntKind.i64.wrap ((k : Int) + 1) = (k : Int) + 1 := IntWalk.i64_in _ (by omega)
  have c1' : w.cell? ⟨b, off + (k + 1), none⟩ = some (.int .i64 y) := c1
  clear hx hy h hk hl
  rcases Int.lt_trichotomy x y with hq | hq | hq
  · have hq2 : ¬ y < x := by omega
    by_cases g1 : x < p
    · by_cases g2 : p < y
      · have d1 : decide (x < p) = true := by simp; omega
        have d2 : decide (p < y) = true := by simp; omega
        have HR : Hid (insB ps p k = true) := by show _ = _; rw [HE.out]; simp; omega
        clear HE
        go_enter Tryz.func71, Tryz.ntmps71
        go_wp2_with fail
        go_quiet (fail)
        go_wp2_with fail
        go_ret
        exact ⟨ret_bool (by rw [HR.out]), _, rfl⟩
      · have d1 : decide (x < p) = true := by simp; omega
        have d2 : decide (p < y) = false := by simp; omega
        have HR : Hid (insB ps p k = false) := by show _ = _; rw [HE.out]; simp; omega
        clear HE
        go_enter Tryz.func71, Tryz.ntmps71
        go_wp2_with fail
        go_quiet (fail)
        go_wp2_with fail
        go_ret
        exact ⟨ret_bool (by rw [HR.out]), _, rfl⟩
    · have d1 : decide (x < p) = false := by simp; omega
      have HR : Hid (insB ps p k = false) := by show _ = _; rw [HE.out]; simp; omega
      clear HE
      go_enter Tryz.func71, Tryz.ntmps71
      go_wp2_with fail
      go_quiet (fail)
      go_wp2_with fail
      go_ret
      exact ⟨ret_bool (by rw [HR.out]), _, rfl⟩
  · subst hq
    have hq2 : ¬ x < x := by omega
    by_cases g1 : x < p
    · by_cases g2 : p < x
      · have d1 : decide (x < p) = true := by simp; omega
        have d2 : decide (p < x) = true := by simp; omega
        have HR : Hid (insB ps p k = true) := by show _ = _; rw [HE.out]; simp; omega
        clear HE
        go_enter Tryz.func71, Tryz.ntmps71
        go_wp2_with fail
        go_quiet (fail)
        go_wp2_with fail
        go_ret
        exact ⟨ret_bool (by rw [HR.out]), _, rfl⟩
      · have d1 : decide (x < p) = true := by simp; omega
        have d2 : decide (p < x) = false := by simp; omega
        have HR : Hid (insB ps p k = false) := by show _ = _; rw [HE.out]; simp; omega
        clear HE
        go_enter Tryz.func71, Tryz.ntmps71
        go_wp2_with fail
        go_quiet (fail)
        go_wp2_with fail
        go_ret
        exact ⟨ret_bool (by rw [HR.out]), _, rfl⟩
    · have d1 : decide (x < p) = false := by simp; omega
      have HR : Hid (insB ps p k = false) := by show _ = _; rw [HE.out]; simp; omega
      clear HE
      go_enter Tryz.func71, Tryz.ntmps71
      go_wp2_with fail
      go_quiet (fail)
      go_wp2_with fail
      go_ret
      exact ⟨ret_bool (by rw [HR.out]), _, rfl⟩
  · have hq2 : ¬ x < y := by omega
    by_cases g1 : y < p
    · by_cases g2 : p < x
      · have d1 : decide (y < p) = true := by simp; omega
        have d2 : decide (p < x) = true := by simp; omega
        have HR : Hid (insB ps p k = true) := by show _ = _; rw [HE.out]; simp; omega
        clear HE
        go_enter Tryz.func71, Tryz.ntmps71
        go_wp2_with fail
        go_quiet (fail)
        go_wp2_with fail
        go_ret
        exact ⟨ret_bool (by rw [HR.out]), _, rfl⟩
      · have d1 : decide (y < p) = true := by simp; omega
        have d2 : decide (p < x) = false := by simp; omega
        have HR : Hid (insB ps p k = false) := by show _ = _; rw [HE.out]; simp; omega
        clear HE
        go_enter Tryz.func71, Tryz.ntmps71
        go_wp2_with fail
        go_quiet (fail)
        go_wp2_with fail
        go_ret
        exact ⟨ret_bool (by rw [HR.out]), _, rfl⟩
    · have d1 : decide (y < p) = false := by simp; omega
      have HR : Hid (insB ps p k = false) := by show _ = _; rw [HE.out]; simp; omega
      clear HE
      go_enter Tryz.func71, Tryz.ntmps71
      go_wp2_with fail
      go_quiet (fail)
      go_wp2_with fail
      go_ret
      exact ⟨ret_bool (by rw [HR.out]), _, rfl⟩
set_option maxHeartbeats 2000000 in
set_option maxRecDepth 100000 in
theorem spec_l2Levels (A : Option Addr) (cap n : Nat) (L : List Int) (w : World) (h : Ints w A L) (hl : L.length ≤ 1000) (hn : n ≤ 100) (hok : ∀ j, j < n → 0 ≤ lvAt L L.length (j : Int)) :
    Calls Tryz.prog 68 #[.int .i64 n, .slice A L.length cap] w fun e w' => ∃ v, e = .returned v ∧ Own w' w.heap.size v (lvTo L n L.length) ∧ Below w.heap.size w w' := by
  have HO1 : Hid (Own (w.alloc (.cells #[] 3)) w.heap.size (.slice (some ⟨w.heap.size, 0, none⟩) 0 0) (lvTo L 0 L.length)) := own_empty w (Nat.le_refl _)
  have HB1 : Hid (Below w.heap.size w (w.alloc (.cells #[] 3))) := (Below.refl _ _).alloc (Nat.le_refl _) _
  have HI := Lib.hid h
  have HOK := Lib.hid hok
  clear h hok
  go_enter Tryz.func68, Tryz.ntmps68
  go_wp2_with fail
  go_loopg [5, 6, 7, 8] (n + 1) (fun gg s5 s6 s7 s8 wr => ∃ (j : Nat), s7 = s7 ∧ s8 = s8 ∧ j ≤ n ∧ s6 = .int .i64 j ∧ n - j < gg ∧ Hid (Own wr w.heap.size s5 (lvTo L j L.length)) ∧ Hid (Below w.heap.size w wr))
  case atStart => exact ⟨0, rfl, rfl, Nat.zero_le _, rfl, by omega, HO1, HB1⟩
  case round =>
    clear HO1 HB1
    obtain ⟨j, _, _, hj, rfl, hg, HO, HB⟩ := hrel
    cases gk with
    | zero => omega
    | succ g1 =>
    by_cases hlt : j < n
    · have j1 : (j : Int) < (n : Int) := by omega
      have j0 : (0 : Int) ≤ (j : Int) := by omega
      go_wp2_with fail
      obtain ⟨wA, hwA⟩ : ∃ wA, wA = wr := ⟨_, rfl⟩
      rw [← hwA] at HO HB ⊢
      clear hwA
      go_loopg [7, 8] (L.length + 1) (fun gg s7 s8 wr => ∃ (k : Nat), k ≤ L.length ∧ s7 = .int .i64 (lvAt L k (j : Int)) ∧ s8 = .int .i64 k ∧ L.length - k < gg ∧ Hid (wr = wA))
      case atStart => exact ⟨0, Nat.zero_le _, rfl, rfl, by omega, rfl⟩
      case round =>
        obtain ⟨k, hk, rfl, rfl, hg2, HW⟩ := hrel
        cases gk with
        | zero => omega
        | succ g2 =>
        by_cases hlt2 : k < L.length
        · have k1 : (k : Int) < (L.length : Int) := by omega
          have k0 : (0 : Int) ≤ (k : Int) := by omega
          obtain ⟨b, off, rfl, hbb, c0⟩ := ints_get (HI.out.below HB.out) hlt2
          rw [← HW.out] at c0
          have hs := lvAt_succ L k (j : Int)
          obtain ⟨x, hx⟩ : ∃ x, x = L.getD k 0 := ⟨_, rfl⟩
          rw [← hx] at c0 hs
          by_cases hxj : x = (j : Int)
          · have e1 : (x == (j : Int)) = true := by rw [beq_iff_eq]; exact hxj
            rw [if_pos hxj] at hs
            have HS := Lib.hid hs
            clear hs hx hxj
            go_wp2_with fail
            go_roundg g2
            case measure => omega
            case rel => exact ⟨k + 1, by omega, by rw [HS.out], by go_num, by omega, HW⟩
          · have e1 : (x == (j : Int)) = false := by rw [beq_eq_false_iff_ne]; exact hxj
            rw [if_neg hxj] at hs
            have HS := Lib.hid hs
            clear hs hx hxj
            go_wp2_with fail
            go_roundg g2
            case measure => omega
            case rel => exact ⟨k + 1, by omega, by rw [HS.out], by go_num, by omega, HW⟩
        · obtain rfl : k = L.length := by omega
          have hw := HW.out
          subst hw
          have hlv := HOK.out j hlt
          have hT : lvTo L (j + 1) L.length = lvTo L j L.length ++ [lvAt L L.length (j : Int)] := by
            unfold lvTo; rw [List.range_succ, List.map_append]; rfl
          obtain ⟨z, hz⟩ : ∃ z, z = lvAt L L.length (j : Int) := ⟨_, rfl⟩
          rw [← hz] at hlv hT ⊢
          have d1 : decide (z < 0) = false := by simp; omega
          have HT := Lib.hid hT
          have hsz := HB.out.size
          have hln : (lvTo L j L.length).length ≤ 100 := by rw [lvTo_len]; omega
          clear hT hz
          go_wp2_with (at_builtin; go_loud (refine wpList_push (W := wr) rfl _ _ rfl w.heap.size _ (lvTo L j L.length) z (by rfl) (by rfl) HO.out hsz (by omega) ?_))
          intro v4 w4 hown4 hgr4 hb4
          rw [← HT.out] at hown4
          have HO4 := Lib.hid hown4
          have HB4 := Lib.hid (HB.out.trans hb4)
          clear hown4 hgr4 hb4
          go_wp2_with fail
          go_roundg g1
          case measure => omega
          case rel => exact ⟨j + 1, trivial, trivial, by omega, by go_num, by omega, HO4, HB4⟩
    · obtain rfl : j = n := by omega
      go_wp2_with fail
      go_ret
      exact ⟨_, rfl, HO.out, HB.out⟩
end Go.Proofs.YtkdlipbegdiaaaaGreatDoor
namespace Go.Proofs.YtkdlipbegdiaaaaGreatDoor
open Go.RowKit
/-- a fold as the reference has it: two parts, a place, a letter -/
abbrev Fq := Nat × Nat × Int × UInt8
def fqV (f : Fq) : List Value := [.int .i64 f.1, .int .i64 f.2.1, .int .i64 f.2.2.1, .int .u8 (f.2.2.2.toNat : Int)]
def fqA (f : Fq) : Value := .agg #[.int .i64 f.1, .int .i64 f.2.1, .int .i64 f.2.2.1, .int .u8 (f.2.2.2.toNat : Int)]
theorem boolD {u v : Bool} (h : u = true ↔ v = true) : u = v := by cases u <;> cases v <;> simp_all
theorem beqB_iff {u v : Bool} : (u == v) = true ↔ (u = true ↔ v = true) := by cases u <;> cases v <;> decide
/-- do two folds lie apart -/
def apartB (lv : List Int) (f g : Fq) : Bool := betB (lv.getD g.1 0) (lv.getD f.1 0) (lv.getD f.2.1 0) == betB (lv.getD g.2.1 0) (lv.getD f.1 0) (lv.getD f.2.1 0)
set_option maxHeartbeats 2000000 in
set_option maxRecDepth 100000 in
theorem spec_l2Apart (A : Option Addr) (cap a b a' b' : Nat) (pf pg : Int) (zf zg : UInt8) (lv : List Int) (w : World) (h : Ints w A lv) (_hl : lv.length ≤ 1000) (h1 : a < lv.length) (h2 : b < lv.length) (h3 : a' < lv.length) (h4 : b' < lv.length) :
    Calls Tryz.prog 72 #[.slice A lv.length cap, fqA (a, b, pf, zf), fqA (a', b', pg, zg)] w fun e w' => e = .returned (.bool (apartB lv (a, b, pf, zf) (a', b', pg, zg))) ∧ Below w.heap.size w w' := by
  obtain ⟨bk, off, rfl, hb, c1⟩ := ints_get h h1
  obtain ⟨_, _, e2, _, c2⟩ := ints_get h h2
  cases e2
  obtain ⟨_, _, e3, _, c3⟩ := ints_get h h3
  cases e3
  obtain ⟨_, _, e4, _, c4⟩ := ints_get h h4
  cases e4
  have HE : Hid (apartB lv (a, b, pf, zf) (a', b', pg, zg) = (betB (lv.getD a' 0) (lv.getD a 0) (lv.getD b 0) == betB (lv.getD b' 0) (lv.getD a 0) (lv.getD b 0))) := rfl
  obtain ⟨la, hla⟩ : ∃ x, x = lv.getD a 0 := ⟨_, rfl⟩
  obtain ⟨lb, hlb⟩ : ∃ x, x = lv.getD b 0 := ⟨_, rfl⟩
  obtain ⟨lc, hlc⟩ : ∃ x, x = lv.getD a' 0 := ⟨_, rfl⟩
  obtain ⟨ld, hld⟩ : ∃ x, x = lv.getD b' 0 := ⟨_, rfl⟩
  rw [← hla, ← hlb, ← hlc, ← hld] at HE
  rw [← hla] at c1
  rw [← hlb] at c2
  rw [← hlc] at c3
  rw [← hld] at c4
  have i1 : (a : Int) < (lv.length : Int) := by omega
  have i2 : (b : Int) < (lv.length : Int) := by omega
  have i3 : (a' : Int) < (lv.length : Int) := by omega
  have i4 : (b' : Int) < (lv.length : Int) := by omega
  have j1 : (0 : Int) ≤ (a : Int) := by omega
  have j2 : (0 : Int) ≤ (b : Int) := by omega
  have j3 : (0 : Int) ≤ (a' : Int) := by omega
  have j4 : (0 : Int) ≤ (b' : Int) := by omega
  have hbs : bk < w.heap.size + 1 := by omega
  have n1 : bk ≠ w.heap.size := by omega
  have n2 : bk ≠ w.heap.size + 1 := by omega
  clear hla hlb hlc hld h h1 h2 h3 h4 _hl
  unfold fqA
  go_enter Tryz.func72, Tryz.ntmps72
  go_wp2_with fail
  go_quiet (fail)
  go_wp2_with fail
  all_goals
    go_quiet (fail)
    go_wp2_with fail
  all_goals
      (go_ret
       refine ⟨ret_bool ?_, below_drewN (((Below.refl _ _).alloc (Nat.le_refl _) _).alloc (by simp) _) _⟩
       rw [HE.out]
       apply boolD
       unfold betB
       simp only [beqB_iff, Bool.and_eq_true, decide_eq_true_eq, Bool.not_eq_true', decide_eq_false_iff_not, true_iff]
       omega)
end Go.Proofs.YtkdlipbegdiaaaaGreatDoor
namespace Go.Proofs.YtkdlipbegdiaaaaGreatDoor
open Go.RowKit
def fqL (fs : List Fq) : List Value := fs.flatMap fqV
theorem fqL_len (fs : List Fq) : (fqL fs).length = fs.length * 4 := by
  induction fs with
  | nil => rfl
  | cons f r ih =>
    show (fqV f ++ fqL r).length = _
    rw [List.length_append, ih, List.length_cons]
    show 4 + _ = _
    omega
theorem fqL_snoc (a : List Fq) (f : Fq) : fqL (a ++ [f]) = fqL a ++ fqV f := by simp [fqL]
theorem fqL_get {fs : List Fq} {k j : Nat} (hk : k < fs.length) (hj : j < 4) : (fqL fs)[k * 4 + j]? = (fqV fs[k])[j]? := by
  induction fs generalizing k with
  | nil => simp at hk
  | cons f r ih =>
    show (fqV f ++ fqL r)[k * 4 + j]? = _
    have h4 : (fqV f).length = 4 := rfl
    cases k with
    | zero =>
      rw [Nat.zero_mul, Nat.zero_add, List.getElem?_append_left (by omega)]; rfl
    | succ k =>
      rw [List.getElem?_append_right (by omega), h4, show (k + 1) * 4 + j - 4 = k * 4 + j from by omega]
      exact ih (by simpa using hk)
theorem fq_one (f : Fq) : ∀ u ∈ fqV f, u.oneCell' = true := by
  intro u hu
  simp only [fqV, List.mem_cons, List.not_mem_nil, or_false] at hu
  rcases hu with rfl | rfl | rfl | rfl <;> rfl
/-- the folds between parts that follow each other -/
def fqTo (xs : List Int) (t : List UInt8) (k : Nat) : List Fq := (List.range k).map fun j => (j, j + 1, plcAt xs (j + 1), t.getD j 0)
theorem fqTo_succ (xs : List Int) (t : List UInt8) (k : Nat) : fqTo xs t (k + 1) = fqTo xs t k ++ [(k, k + 1, plcAt xs (k + 1), t.getD k 0)] := by simp [fqTo, List.range_succ]
theorem fqTo_len (xs : List Int) (t : List UInt8) (k : Nat) : (fqTo xs t k).length = k := by simp [fqTo]
theorem own_lowQ {w : World} {B B' : Nat} {e : TypeId} {z n : Nat} {v : Value} {xs : List Value} (h : w.ownsRow B e z v n xs) (hB : B' ≤ B) : w.ownsRow B' e z v n xs := by
  refine ⟨h.1, ?_⟩
  rcases h.2 with e | ⟨g, cp, cur, e1, e2, e3⟩
  · exact Or.inl e
  · exact Or.inr ⟨g, cp, cur, e1, Nat.le_trans hB e2, e3⟩
end Go.Proofs.YtkdlipbegdiaaaaGreatDoor
namespace Go.Proofs.YtkdlipbegdiaaaaGreatDoor
open Go.RowKit
/-- is the fold f's direction right -/
def dirQ (lv : List Int) (f : Fq) : Bool := decide (lv.getD f.1 0 < lv.getD f.2.1 0) == ((((f.2.2.2.toNat : Int) == 86)) == (f.1 % 2 == 0))
def partQ (lv ps : List Int) (f : Fq) (i : Nat) : Bool := !(betB (lv.getD i 0) (lv.getD f.1 0) (lv.getD f.2.1 0) && insB ps f.2.2.1 i)
def pairQ (lv : List Int) (f g : Fq) : Bool := !((g.2.2.1 == f.2.2.1) && (g.1 % 2 == f.1 % 2) && !apartB lv f g)
def pqI (lv : List Int) (fs : List Fq) (f : Fq) (m : Nat) : Bool := match fs[m]? with | none => true | some g => pairQ lv f g
def foldQ (lv ps : List Int) (n : Nat) (fs : List Fq) (k : Nat) : Bool := match fs[k]? with
  | none => true
  | some f => dirQ lv f && ((List.range n).all fun i => partQ lv ps f i) && (List.range k).all fun m => match fs[m]? with | none => true | some g => pairQ lv f g
def rightQ (lv ps : List Int) (n : Nat) (fs : List Fq) : Bool := (List.range fs.length).all fun k => foldQ lv ps n fs k
theorem rowv_fq {w : World} {A : Option Addr} {fs : List Fq} (h : RowV w A (fqL fs)) {k : Nat} (hk : k < fs.length) : ∃ b off, A = some ⟨b, off, none⟩ ∧ b < w.heap.size ∧ w.cell? ⟨b, off + k * 4, none⟩ = some (.int .i64 fs[k].1) ∧ w.cell? ⟨b, off + k * 4 + 1, none⟩ = some (.int .i64 fs[k].2.1) ∧ w.cell? ⟨b, off + k * 4 + 2, none⟩ = some (.int .i64 fs[k].2.2.1) ∧ w.cell? ⟨b, off + k * 4 + 3, none⟩ = some (.int .u8 (fs[k].2.2.2.toNat : Int)) := by
  obtain ⟨b, off, e, hb, hc⟩ := h (show fqL fs ≠ [] from fun e => by have := congrArg List.length e; rw [fqL_len, List.length_nil] at this; omega)
  have h0 := hc (k * 4 + 0) _ ((fqL_get hk (j := 0) (by omega)).trans rfl)
  have h1 := hc (k * 4 + 1) _ ((fqL_get hk (j := 1) (by omega)).trans rfl)
  have h2 := hc (k * 4 + 2) _ ((fqL_get hk (j := 2) (by omega)).trans rfl)
  have h3 := hc (k * 4 + 3) _ ((fqL_get hk (j := 3) (by omega)).trans rfl)
  exact ⟨b, off, e, hb, h0, by rw [Nat.add_assoc]; exact h1, by rw [Nat.add_assoc]; exact h2, by rw [Nat.add_assoc]; exact h3⟩
theorem all_bad {n : Nat} {q : Nat → Bool} {i : Nat} (hi : i < n) (h : q i = false) : (List.range n).all q = false := by
  cases hh : (List.range n).all q with
  | false => rfl
  | true => have := List.all_eq_true.1 hh i (List.mem_range.2 hi); rw [h] at this; cases this
theorem foldQ_dir {lv ps : List Int} {n : Nat} {fs : List Fq} {k : Nat} (hk : k < fs.length) (h : dirQ lv fs[k] = false) : foldQ lv ps n fs k = false := by
  unfold foldQ; rw [List.getElem?_eq_getElem hk]; simp only []; rw [h]; rfl
theorem foldQ_part {lv ps : List Int} {n : Nat} {fs : List Fq} {k i : Nat} (hk : k < fs.length) (hi : i < n) (h : partQ lv ps fs[k] i = false) : foldQ lv ps n fs k = false := by
  unfold foldQ; rw [List.getElem?_eq_getElem hk]; simp only []; rw [all_bad hi h, Bool.and_false, Bool.false_and]
theorem foldQ_pair {lv ps : List Int} {n : Nat} {fs : List Fq} {k m : Nat} (hk : k < fs.length) (hm : m < k) (h : pairQ lv fs[k] (fs[m]'(by omega)) = false) : foldQ lv ps n fs k = false := by
  unfold foldQ; rw [List.getElem?_eq_getElem hk]; simp only []
  rw [all_bad hm (by rw [List.getElem?_eq_getElem (by omega)]; exact h), Bool.and_false]
theorem foldQ_ok {lv ps : List Int} {n : Nat} {fs : List Fq} {k : Nat} (hk : k < fs.length) (h1 : dirQ lv fs[k] = true) (h2 : ∀ i, i < n → partQ lv ps fs[k] i = true) (h3 : ∀ m (hm : m < k), pairQ lv fs[k] (fs[m]'(by omega)) = true) : foldQ lv ps n fs k = true := by
  unfold foldQ; rw [List.getElem?_eq_getElem hk]; simp only []
  rw [h1, List.all_eq_true.2 (fun i hi => h2 i (List.mem_range.1 hi)), List.all_eq_true.2 (fun m hm => by
    have hm' := List.mem_range.1 hm
    rw [List.getElem?_eq_getElem (by omega)]; exact h3 m hm')]; rfl
end Go.Proofs.YtkdlipbegdiaaaaGreatDoor
