/- Plain functions on lists: what the small tests of angles, folds and lengths answer. No program, no condition. Patterns of vertices: which lists are patterns, how many creases they have. No program, no condition. The program's tests of angles, folds and lengths. No condition but sizes. The program's tests of patterns: slices.Contains, addUses, creaseUses, PatternValid, PatternCreases. No condition but sizes. The program's 'crimps': the list of the indexes at which 'allowed' answers yes. No condition. -/
import Derived.Test.YtnccpifdajcejaaFnPatternCrimpP0
import Derived.Laws.OwnMore
import Derived.Test.YtnccpifdajcejaaFnPatternCrimpP3
import Derived.Test.YtnccpifdajcejaaFnPatternCrimpP2
namespace Go.Proofs.Ytnccpifdajcejaa

/-- the angles of a vertex -/
def avB (xs : List Int) : Bool := decide (xs.length % 2 = 0) && decide (2 ≤ xs.length) && decide (xs.length ≤ 10) && xs.all (fun x => decide (1 ≤ x) && decide (x ≤ 360)) && decide (xs.sum = 360)
def sumGo : Int → List Int → Int
  | s, [] => s
  | s, x :: r => sumGo (s + x) r
theorem sumGo_eq (s : Int) (xs : List Int) : sumGo s xs = s + xs.sum := by
  induction xs generalizing s with
  | nil => simp [sumGo]
  | cons x r ih => simp [sumGo, ih]; omega
def avGo : Int → List Int → Bool
  | s, [] => decide (s = 360)
  | s, x :: r => if x < 1 then false else if 360 < x then false else avGo (s + x) r
theorem avGo_eq (s : Int) (xs : List Int) : avGo s xs = (xs.all (fun x => decide (1 ≤ x) && decide (x ≤ 360)) && decide (s + xs.sum = 360)) := by
  induction xs generalizing s with
  | nil => simp [avGo]
  | cons x r ih =>
    rw [avGo, ih]
    by_cases h1 : x < 1
    · simp [h1]; intro h; omega
    · by_cases h2 : 360 < x
      · simp [h1, h2]; intro _ h; omega
      · rw [if_neg h1, if_neg h2]
        have e1 : 1 ≤ x := by omega
        have e2 : x ≤ 360 := by omega
        have e3 : s + (x :: r).sum = s + x + r.sum := by simp; omega
        rw [e3]
        simp [e1, e2]
theorem avB_go {xs : List Int} (h1 : xs.length % 2 = 0) (h2 : 2 ≤ xs.length) (h3 : xs.length ≤ 10) : avB xs = avGo 0 xs := by
  rw [avGo_eq]; unfold avB; simp [h1, h2, h3]
theorem avB_parts {xs : List Int} (h : avB xs = true) : xs.length % 2 = 0 ∧ 2 ≤ xs.length ∧ xs.length ≤ 10 ∧ (∀ x ∈ xs, 1 ≤ x ∧ x ≤ 360) ∧ xs.sum = 360 := by
  unfold avB at h
  simp only [Bool.and_eq_true, decide_eq_true_eq, List.all_eq_true] at h
  obtain ⟨⟨⟨⟨a, b⟩, c⟩, d⟩, e⟩ := h
  exact ⟨a, b, c, d, e⟩

/-- sums of every other number, with alternating signs -/
def balGo (k : Nat) (s : Int) : List Int → Int
  | [] => s
  | x :: r => balGo (k + 1) (if k % 2 = 0 then s + x else s - x) r
def balB (xs : List Int) : Bool := decide (balGo 0 0 xs = 0)
def acB (xs : List Int) : Bool := avB xs && balB xs

/-- folds are M or V -/
def mvB (c : UInt8) : Bool := decide (c.toNat = 77) || decide (c.toNat = 86)
def fvB (fs : List UInt8) (n : Int) : Bool := decide ((fs.length : Int) = n) && fs.all mvB

/-- lengths of parts -/
def lvB (xs : List Int) : Bool := decide (1 ≤ xs.length) && decide (xs.length ≤ 6) && xs.all (fun x => decide (1 ≤ x) && decide (x ≤ 1000))
def rvB (xs : List Int) (fs : List UInt8) : Bool := lvB xs && decide (xs.length % 2 = 0) && fvB fs xs.length && balB xs
theorem lvB_parts {xs : List Int} (h : lvB xs = true) : 1 ≤ xs.length ∧ xs.length ≤ 6 ∧ ∀ x ∈ xs, 1 ≤ x ∧ x ≤ 1000 := by
  unfold lvB at h
  simp only [Bool.and_eq_true, decide_eq_true_eq, List.all_eq_true] at h
  obtain ⟨⟨a, b⟩, c⟩ := h
  exact ⟨a, b, c⟩

end Go.Proofs.Ytnccpifdajcejaa
namespace Go.Proofs.Ytnccpifdajcejaa

/-- creases are different and in their range -/
def crGo : List Int → List Int → Bool
  | _, [] => true
  | seen, x :: r => if x < 0 then false else if 9 < x then false else if x ∈ seen then false else crGo (seen ++ [x]) r
def crB (cs : List Int) : Bool := crGo [] cs
def vtxB (v : List Int × List Int) : Bool := acB v.1 && decide (v.2.length = v.1.length) && crB v.2
/-- to how many vertices a crease belongs -/
def useN : List (List Int × List Int) → Int → Nat
  | [], _ => 0
  | v :: r, k => (if k ∈ v.2 then 1 else 0) + useN r k
/-- the number of creases, if they are numbered from 0 on -/
def mxGo : Int → List Int → Int
  | m, [] => m
  | m, x :: r => mxGo (if m < x + 1 then x + 1 else m) r
def ncGo : Int → List (List Int × List Int) → Int
  | m, [] => m
  | m, v :: r => ncGo (mxGo m v.2) r
def ncr (vs : List (List Int × List Int)) : Int := ncGo 0 vs
def usesOk (vs : List (List Int × List Int)) : Nat → Bool
  | 0 => true
  | k + 1 => usesOk vs k && (decide (1 ≤ useN vs k) && decide (useN vs k ≤ 2))
def patB (vs : List (List Int × List Int)) : Bool :=
  decide (1 ≤ vs.length) && decide (vs.length ≤ 3) && vs.all vtxB && usesOk vs (ncr vs).toNat

theorem crGo_iff (seen cs : List Int) : crGo seen cs = true ↔ (∀ x ∈ cs, 0 ≤ x ∧ x ≤ 9 ∧ x ∉ seen) ∧ cs.Nodup := by
  induction cs generalizing seen with
  | nil => simp [crGo]
  | cons x r ih =>
    rw [crGo]
    by_cases h1 : x < 0
    · rw [if_pos h1]
      simp only [Bool.false_eq_true, false_iff]
      rintro ⟨h, _⟩
      have := h x (by simp)
      omega
    · rw [if_neg h1]
      by_cases h2 : 9 < x
      · rw [if_pos h2]
        simp only [Bool.false_eq_true, false_iff]
        rintro ⟨h, _⟩
        have := h x (by simp)
        omega
      · rw [if_neg h2]
        by_cases h3 : x ∈ seen
        · rw [if_pos h3]
          simp only [Bool.false_eq_true, false_iff]
          rintro ⟨h, _⟩
          exact (h x (by simp)).2.2 h3
        · rw [if_neg h3, ih, List.nodup_cons]
          constructor
          · rintro ⟨h, hn⟩
            refine ⟨fun y hy => ?_, ?_, hn⟩
            · rcases List.mem_cons.1 hy with rfl | hy
              · exact ⟨by omega, by omega, h3⟩
              · have := h y hy
                simp at this
                exact ⟨this.1, this.2.1, this.2.2.1⟩
            · intro hx
              have := (h x hx).2.2
              simp at this
          · rintro ⟨h, hx, hn⟩
            refine ⟨fun y hy => ?_, hn⟩
            have := h y (by simp [hy])
            refine ⟨this.1, this.2.1, ?_⟩
            simp only [List.mem_append, List.mem_singleton, not_or]
            exact ⟨this.2.2, fun e => hx (e ▸ hy)⟩
theorem crB_iff (cs : List Int) : crB cs = true ↔ (∀ x ∈ cs, 0 ≤ x ∧ x ≤ 9) ∧ cs.Nodup := by
  unfold crB
  rw [crGo_iff]
  constructor
  · rintro ⟨h, hn⟩; exact ⟨fun x hx => ⟨(h x hx).1, (h x hx).2.1⟩, hn⟩
  · rintro ⟨h, hn⟩; exact ⟨fun x hx => ⟨(h x hx).1, (h x hx).2, by simp⟩, hn⟩
theorem mxGo_le (m : Int) (cs : List Int) : m ≤ mxGo m cs ∧ ∀ x ∈ cs, x + 1 ≤ mxGo m cs := by
  induction cs generalizing m with
  | nil => exact ⟨Int.le_refl _, fun x h => by cases h⟩
  | cons y r ih =>
    rw [mxGo]
    have h := ih (if m < y + 1 then y + 1 else m)
    constructor
    · refine Int.le_trans ?_ h.1; split <;> omega
    · intro x hx
      rcases List.mem_cons.1 hx with rfl | hx
      · refine Int.le_trans ?_ h.1; split <;> omega
      · exact h.2 x hx
theorem mxGo_is (m : Int) (cs : List Int) : mxGo m cs = m ∨ ∃ x ∈ cs, mxGo m cs = x + 1 := by
  induction cs generalizing m with
  | nil => exact Or.inl rfl
  | cons y r ih =>
    rw [mxGo]
    rcases ih (if m < y + 1 then y + 1 else m) with h | ⟨x, hx, h⟩
    · rw [h]
      split
      · exact Or.inr ⟨y, by simp, rfl⟩
      · exact Or.inl rfl
    · exact Or.inr ⟨x, by simp [hx], h⟩
theorem ncGo_le (m : Int) (vs : List (List Int × List Int)) : m ≤ ncGo m vs ∧ ∀ v ∈ vs, ∀ x ∈ v.2, x + 1 ≤ ncGo m vs := by
  induction vs generalizing m with
  | nil => exact ⟨Int.le_refl _, fun x h => by cases h⟩
  | cons y r ih =>
    rw [ncGo]
    have h := ih (mxGo m y.2)
    have h2 := mxGo_le m y.2
    constructor
    · exact Int.le_trans h2.1 h.1
    · intro v hv x hx
      rcases List.mem_cons.1 hv with rfl | hv
      · exact Int.le_trans (h2.2 x hx) h.1
      · exact h.2 v hv x hx
theorem ncGo_is (m : Int) (vs : List (List Int × List Int)) : ncGo m vs = m ∨ ∃ v ∈ vs, ∃ x ∈ v.2, ncGo m vs = x + 1 := by
  induction vs generalizing m with
  | nil => exact Or.inl rfl
  | cons y r ih =>
    rw [ncGo]
    rcases ih (mxGo m y.2) with h | ⟨v, hv, x, hx, h⟩
    · rw [h]
      rcases mxGo_is m y.2 with h2 | ⟨x, hx, h2⟩
      · exact Or.inl h2
      · exact Or.inr ⟨y, by simp, x, hx, h2⟩
    · exact Or.inr ⟨v, by simp [hv], x, hx, h⟩
theorem useN_pos {vs : List (List Int × List Int)} {k : Int} : 0 < useN vs k ↔ ∃ v ∈ vs, k ∈ v.2 := by
  induction vs with
  | nil => simp [useN]
  | cons y r ih =>
    rw [useN]
    by_cases h : k ∈ y.2
    · rw [if_pos h]
      exact ⟨fun _ => ⟨y, by simp, h⟩, fun _ => by omega⟩
    · rw [if_neg h, Nat.zero_add, ih]
      constructor
      · rintro ⟨v, hv, hk⟩; exact ⟨v, by simp [hv], hk⟩
      · rintro ⟨v, hv, hk⟩
        rcases List.mem_cons.1 hv with rfl | hv
        · exact absurd hk h
        · exact ⟨v, hv, hk⟩
theorem useN_le (vs : List (List Int × List Int)) (k : Int) : useN vs k ≤ vs.length := by
  induction vs with
  | nil => simp [useN]
  | cons y r ih => rw [useN, List.length_cons]; split <;> omega
theorem useN_app (us vs : List (List Int × List Int)) (k : Int) : useN (us ++ vs) k = useN us k + useN vs k := by
  induction us with
  | nil => simp [useN]
  | cons y r ih => rw [List.cons_append, useN, useN, ih]; omega
/-- the counts of the first n creases -/
def usesL (vs : List (List Int × List Int)) (n : Nat) : List Int := (List.range n).map fun (k : Nat) => (useN vs (k : Int) : Int)
theorem usesL_len (vs : List (List Int × List Int)) (n : Nat) : (usesL vs n).length = n := by simp [usesL]
theorem usesL_get (vs : List (List Int × List Int)) {n k : Nat} (h : k < n) : (usesL vs n)[k]? = some (useN vs (k : Int) : Int) := by simp [usesL, h]
end Go.Proofs.Ytnccpifdajcejaa
namespace Go.Proofs.Ytnccpifdajcejaa
open Go.RowKit

set_option maxHeartbeats 400000 in
theorem impl_balanced (A : Option Addr) (cap : Nat) (xs : List Int) (w : World) (h : Ints w A xs) (hl : xs.length ≤ 100) (hx : ∀ x ∈ xs, 0 ≤ x ∧ x ≤ 1000) :
    Calls Try.prog 84 #[.slice A xs.length cap] w fun e w' => e = .returned (.bool (balB xs)) ∧ w = w' := by
  go_enter Try.func84, Try.ntmps84
  go_wp2
  go_loop [3, 8] (fun s i => ∃ (k : Nat) (v : Int), k ≤ xs.length ∧ i = .int .i64 k ∧ s = .int .i64 v ∧ -1000 * (k : Int) ≤ v ∧ v ≤ 1000 * (k : Int) ∧ Hid (balGo 0 0 xs = balGo k v (xs.drop k))) (fun _ i => xs.length - (intOf i).toNat)
  case atStart => exact ⟨0, 0, Nat.zero_le _, rfl, rfl, by simp, by simp, rfl⟩
  case round =>
    obtain ⟨k, v, hk, rfl, rfl, b1, b2, H⟩ := hrel
    by_cases hlt : k < xs.length
    · obtain ⟨b, off, x, rfl, hb, HX, hc, hm⟩ := h.at_ hlt
      obtain ⟨x1, x2⟩ := hx x hm
      clear hx hm
      by_cases hp : k % 2 = 0
      · have HP := Lib.hid hp; clear hp
        have hpk : (((k : Int) % 2) == 0) = true := by have := HP.out; simp; omega
        go_wp2
        go_round
        case rel => exact ⟨k + 1, v + x, by omega, by go_num, rfl, by omega, by omega, H.out.trans (by rw [HX.out, balGo, if_pos HP.out])⟩
        case measure => simp [intOf]; omega
      · have HP := Lib.hid hp; clear hp
        have hpk : (((k : Int) % 2) == 0) = false := by have := HP.out; simp; omega
        go_wp2
        go_round
        case rel => exact ⟨k + 1, v - x, by omega, by go_num, rfl, by omega, by omega, H.out.trans (by rw [HX.out, balGo, if_neg HP.out])⟩
        case measure => simp [intOf]; omega
    · go_wp2
      go_ret
      refine ⟨ret_bool ?_, rfl⟩
      have e : xs.drop k = [] := List.drop_of_length_le (by omega)
      unfold balB
      rw [H.out, e, balGo, Bool.eq_iff_iff]; simp

set_option maxHeartbeats 400000 in
theorem impl_AnglesValid (A : Option Addr) (cap : Nat) (xs : List Int) (w : World) (h : Ints w A xs) (hl : xs.length ≤ maxLen) :
    Calls Try.prog 64 #[.slice A xs.length cap] w fun e w' => e = .returned (.bool (avB xs)) ∧ w = w' := by
  unfold maxLen at hl
  by_cases g1 : xs.length < 2
  · have d1 : decide ((xs.length : Int) < 2) = true := by simp; omega
    go_enter Try.func64, Try.ntmps64
    go_wp2
    go_ret
    exact ⟨ret_bool (by unfold avB; simp; omega), rfl⟩
  · have d1 : decide ((xs.length : Int) < 2) = false := by simp; omega
    by_cases g2 : 10 < xs.length
    · have d2 : decide ((10 : Int) < (xs.length : Int)) = true := by simp; omega
      go_enter Try.func64, Try.ntmps64
      go_wp2
      go_ret
      exact ⟨ret_bool (by unfold avB; simp; omega), rfl⟩
    · have d2 : decide ((10 : Int) < (xs.length : Int)) = false := by simp; omega
      by_cases g3 : xs.length % 2 = 0
      · have d3 : (((xs.length : Int) % 2) != 0) = false := by simp; omega
        have G := Lib.hid (avB_go g3 (by omega) (by omega))
        clear g3
        go_enter Try.func64, Try.ntmps64
        go_wp2
        go_loop [4, 22] (fun s i => ∃ (k : Nat) (v : Int), k ≤ xs.length ∧ i = .int .i64 k ∧ s = .int .i64 v ∧ 0 ≤ v ∧ v ≤ 360 * (k : Int) ∧ Hid (avB xs = avGo v (xs.drop k))) (fun _ i => xs.length - (intOf i).toNat)
        case atStart => exact ⟨0, 0, Nat.zero_le _, rfl, rfl, by omega, by omega, G.out⟩
        case round =>
          obtain ⟨k, v, hk, rfl, rfl, b1, b2, H⟩ := hrel
          by_cases hlt : k < xs.length
          · obtain ⟨b, off, x, rfl, hb, HX, hc, hm⟩ := h.at_ hlt
            clear hm
            by_cases t1 : x < 1
            · have e1 : decide (x < 1) = true := by simp; omega
              go_wp2
              go_ret
              exact ⟨ret_bool (by rw [H.out, HX.out, avGo, if_pos t1]), rfl⟩
            · have e1 : decide (x < 1) = false := by simp; omega
              by_cases t2 : 360 < x
              · have e2 : decide ((360 : Int) < x) = true := by simp; omega
                go_wp2
                go_ret
                exact ⟨ret_bool (by rw [H.out, HX.out, avGo, if_neg (by omega), if_pos t2]), rfl⟩
              · have e2 : decide ((360 : Int) < x) = false := by simp; omega
                go_wp2
                go_round
                case rel => exact ⟨k + 1, v + x, by omega, by go_num, rfl, by omega, by omega, H.out.trans (by rw [HX.out, avGo, if_neg (by omega), if_neg (by omega)])⟩
                case measure => simp [intOf]; omega
          · go_wp2
            go_ret
            have e : xs.drop k = [] := List.drop_of_length_le (by omega)
            exact ⟨ret_bool (by rw [H.out, e, avGo, Bool.eq_iff_iff]; simp), rfl⟩
      · have d3 : (((xs.length : Int) % 2) != 0) = true := by rw [bne_iff_ne]; omega
        have G := Lib.hid g3
        clear g3
        go_enter Try.func64, Try.ntmps64
        go_wp2
        go_ret
        exact ⟨ret_bool (by have := G.out; unfold avB; simp; omega), rfl⟩

set_option maxHeartbeats 400000 in
theorem impl_AnglesCloses (A : Option Addr) (cap : Nat) (xs : List Int) (w : World) (h : Ints w A xs) (hl : xs.length ≤ maxLen) :
    Calls Try.prog 69 #[.slice A xs.length cap] w fun e w' => e = .returned (.bool (acB xs)) ∧ w = w' := by
  cases hv : avB xs with
  | false =>
    have HV := Lib.hid hv; clear hv
    go_enter Try.func69, Try.ntmps69
    go_wp2_with fail
    refine (impl_AnglesValid A cap xs w h hl).mono ?_
    rintro e w' ⟨rfl, rfl⟩
    rw [HV.out]
    go_wp2
    go_ret
    exact ⟨ret_bool (by unfold acB; rw [HV.out]; rfl), rfl⟩
  | true =>
    obtain ⟨_, _, h10, hx, _⟩ := avB_parts hv
    have HV := Lib.hid hv; clear hv
    have HX := Lib.hid hx; clear hx
    go_enter Try.func69, Try.ntmps69
    go_wp2_with fail
    refine (impl_AnglesValid A cap xs w h hl).mono ?_
    rintro e w' ⟨rfl, rfl⟩
    rw [HV.out]
    go_wp2_with fail
    refine (impl_balanced A cap xs w h (by omega) (fun x hx => by have := HX.out x hx; omega)).mono ?_
    rintro e w' ⟨rfl, rfl⟩
    go_wp2
    go_ret
    exact ⟨ret_bool (by unfold acB; rw [HV.out]; rfl), rfl⟩

end Go.Proofs.Ytnccpifdajcejaa
namespace Go.Proofs.Ytnccpifdajcejaa
open Go.RowKit

theorem Ints.away {w w' : World} {A : Option Addr} {xs : List Int} {g : Nat} (h : Ints w A xs) (hb : Below w.heap.size w w') (hg : w.heap.size ≤ g) : Away w' g A xs := by
  intro hn
  obtain ⟨b, off, e, hlt, hc⟩ := h hn
  exact ⟨b, off, e, by omega, Nat.lt_of_lt_of_le hlt hb.size, fun k x hk => (hb.cell (p := ⟨b, off + k, none⟩) hlt).trans (hc k x hk)⟩

set_option maxHeartbeats 400000 in
theorem slices_Index (A : Option Addr) (cap : Nat) (xs : List Int) (z : Int) (w : World) (h : Ints w A xs) (hl : xs.length ≤ maxLen) :
    Calls Try.prog 93 #[.slice A xs.length cap, .int .i64 z] w fun e w' => ∃ i : Int, e = .returned (.int .i64 i) ∧ ((0 ≤ i) ↔ (z ∈ xs)) ∧ w = w' := by
  unfold maxLen at hl
  go_enter Try.func93, Try.ntmps93
  go_wp2_with fail
  go_loop [5, 8] (fun s5 s8 => ∃ k : Nat, k ≤ xs.length ∧ s8 = .int .i64 k ∧ Hid ((z ∈ xs) ↔ (z ∈ xs.drop k))) (fun _ s8 => xs.length - (intOf s8).toNat)
  case atStart => exact ⟨0, Nat.zero_le _, rfl, by show _ ↔ _; simp⟩
  case round =>
    obtain ⟨k, hk, rfl, H⟩ := hrel
    by_cases hlt : k < xs.length
    · obtain ⟨b, off, y, rfl, _, HX, hc, _⟩ := h.at_ hlt
      have k1 : (k : Int) < (xs.length : Int) := by omega
      by_cases q : z = y
      · have d : (z == y) = true := by rw [beq_iff_eq]; exact q
        have hm : z ∈ xs := by rw [H.out, HX.out, q]; simp
        have HM := Lib.hid hm
        clear q hm
        go_wp2_with fail
        go_ret
        exact ⟨k, rfl, ⟨fun _ => HM.out, fun _ => by omega⟩, rfl⟩
      · have d : (z == y) = false := by rw [beq_eq_false_iff_ne]; exact q
        have H2 : Hid ((z ∈ xs) ↔ (z ∈ xs.drop (k + 1))) := by
          show _ ↔ _
          rw [H.out, HX.out, List.mem_cons]
          exact ⟨fun e => e.resolve_left q, Or.inr⟩
        clear q
        go_wp2_with fail
        go_round
        case rel => exact ⟨k + 1, by omega, by go_num, H2⟩
        case measure => simp [intOf]; omega
    · obtain rfl : k = xs.length := by omega
      have hm : ¬ z ∈ xs := by rw [H.out]; simp
      have HM := Lib.hid hm
      clear hm
      go_wp2_with fail
      go_ret
      exact ⟨-1, rfl, ⟨fun h => by omega, fun h => absurd h HM.out⟩, rfl⟩
theorem slices_Contains (A : Option Addr) (cap : Nat) (xs : List Int) (z : Int) (w : World) (h : Ints w A xs) (hl : xs.length ≤ maxLen) :
    Calls Try.prog 87 #[.slice A xs.length cap, .int .i64 z] w fun e w' => e = .returned (.bool (decide (z ∈ xs))) ∧ w = w' := by
  go_enter Try.func87, Try.ntmps87
  go_wp2_with fail
  refine (slices_Index A cap xs z w h hl).mono ?_
  rintro e w' ⟨i, rfl, hi, rfl⟩
  have hd : decide (0 ≤ i) = decide (z ∈ xs) := by rw [Bool.eq_iff_iff]; simp [hi]
  have HD := Lib.hid hd
  clear hi hd
  go_wp2_with fail
  go_ret
  exact ⟨by rw [← HD.out]; rfl, rfl⟩

/-- a row of ten numbers -/
def rowF (f : Nat → Int) : List Int := (List.range 10).map f
theorem rowF_len (f : Nat → Int) : (rowF f).length = 10 := by simp [rowF]
theorem rowF_get (f : Nat → Int) {k : Nat} (h : k < 10) : (rowF f)[k]? = some (f k) := by simp [rowF, h]
theorem rowF_set (f : Nat → Int) {k : Nat} (v : Int) : (rowF f).set k v = rowF (fun j => if j = k then v else f j) := by
  apply List.ext_getElem?
  intro j
  rw [List.getElem?_set]
  by_cases hj : j < 10
  · rw [rowF_get _ hj, rowF_get _ hj, rowF_len]
    by_cases e : k = j
    · rw [if_pos e, if_pos (by omega), if_pos e.symm]
    · rw [if_neg e, if_neg (fun e2 => e e2.symm)]
  · rw [List.getElem?_eq_none (by rw [rowF_len]; omega), List.getElem?_eq_none (by rw [rowF_len]; omega)]
    split
    · rw [if_neg (by rw [rowF_len]; omega)]
    · rfl
theorem rowF_congr {f g : Nat → Int} (h : ∀ k, k < 10 → f k = g k) : rowF f = rowF g := by
  unfold rowF
  exact List.map_congr_left fun k hk => h k (List.mem_range.1 hk)
/-- f, with one more at each of the numbers cs -/
def bump (f : Nat → Int) (cs : List Int) (k : Nat) : Int := f k + (if (k : Int) ∈ cs then 1 else 0)
abbrev Row10 (w : World) (B g : Nat) (f : Nat → Int) : Prop := w.ownsRow B 3 1 (.slice (some ⟨g, 0, none⟩) 10 10) 10 ((rowF f).map (Value.int .i64))
theorem map_set_int (l : List Int) (k : Nat) (v : Int) : (l.map (Value.int .i64)).set k (.int .i64 v) = (l.set k v).map (Value.int .i64) := by simp [List.map_set]

set_option maxHeartbeats 2000000 in
theorem impl_addUses (A1 A2 : Option Addr) (c1 c2 n1 : Nat) (cs : List Int) (f : Nat → Int) (B g : Nat) (w : World) (h : Away w g A2 cs) (hl : cs.length ≤ 1000000) (hcap : cs.length ≤ c2) (hr : Row10 w B g f) (hf : ∀ k, k < 10 → 0 ≤ f k ∧ f k ≤ 1000000) (hB : B ≤ g) (hgs : g < w.heap.size) :
    Calls Try.prog 73 #[.agg #[.slice A1 n1 c1, .slice A2 cs.length c2], .slice (some ⟨g, 0, none⟩) 10 10] w fun e w' => e = .returned (.bool (crB cs)) ∧ (∃ f', Row10 w' B g f' ∧ (crB cs = true → ∀ k, k < 10 → f' k = bump f cs k)) ∧ w.grownBy w' (some g) := by
  have HF := Lib.hid hf
  clear hf
  obtain ⟨w1, hw1⟩ : ∃ w1, w1 = w.alloc (.cells #[.slice A1 n1 c1, .slice A2 cs.length c2] 30) := ⟨_, rfl⟩
  have hb1 : Below w.heap.size w w1 := by rw [hw1]; exact (Below.refl _ _).alloc (Nat.le_refl _) _
  have hblk : Blk w1 w.heap.size 30 #[.slice A1 n1 c1, .slice A2 cs.length c2] := by rw [hw1]; exact Blk.new w _ _
  have hg1 : w.grownBy w1 (some g) := by rw [hw1]; exact ⟨rfl, rfl, rfl, by simp, fun k hk _ => Below.heap_alloc w _ k hk⟩
  have hr1 : Row10 w1 B g f := by rw [hw1]; exact hr.alloc _
  have h1 := h.below hb1
  have H1 := Lib.hid h1
  have HR1 := Lib.hid hr1
  have HG1 := Lib.hid hg1
  have HBlk := Lib.hid hblk
  go_enter Try.func73, Try.ntmps73
  go_wp2_with fail
  rw [← hw1]
  have hsz := hb1.size
  have hs1 : w.heap.size < w1.heap.size := hblk.lt
  clear hw1 hb1 hg1 hr1 h1 hr h hblk
  have e1 := HBlk.out.cell 1
  go_wp2_with fail
  go_loopg [5, 6, 10] (cs.length + 1) (fun gg s5 s6 s10 wr => ∃ (j : Nat) (f' : Nat → Int), j ≤ cs.length ∧ s10 = .int .i64 j ∧ cs.length - j < gg ∧ Hid (crGo (cs.take j) (cs.drop j) = crB cs) ∧ Hid (Row10 wr B g f') ∧ Hid (∀ k, k < 10 → f' k = bump f (cs.take j) k) ∧ Hid (w.grownBy wr (some g)) ∧ Hid (Blk wr w.heap.size 30 #[.slice A1 n1 c1, .slice A2 cs.length c2]) ∧ Hid (Away wr g A2 cs))
  case atStart => exact ⟨0, f, Nat.zero_le _, rfl, by omega, rfl, HR1, (fun k _ => by simp [bump]), HG1, HBlk, H1⟩
  case round =>
    clear HR1 HG1 HBlk H1 e1 hs1 hsz
    obtain ⟨j, f', hj, rfl, hgg, HC, HR, HFj, HG, HB, HA⟩ := hrel
    cases gk with
    | zero => omega
    | succ gg =>
    have e1 := HB.out.cell 1
    by_cases hlt : j < cs.length
    · obtain ⟨b, off, y, rfl, hbw, HX, hcy, hym⟩ := HA.out.ints.at_ hlt
      have hcut : Ints wr (some ⟨b, off, none⟩) (cs.take j) := by have := HA.out.ints.cut 0 j; simpa using this
      have htl : (cs.take j).length = j := by rw [List.length_take]; omega
      have hcont : Calls Try.prog 87 #[.slice (some ⟨b, off, none⟩) j c2, .int .i64 y] wr fun e w' => e = .returned (.bool (decide (y ∈ cs.take j))) ∧ wr = w' := by
        have := slices_Contains (some ⟨b, off, none⟩) c2 (cs.take j) y wr hcut (by unfold maxLen; omega)
        rwa [htl] at this
      have HCONT := Lib.hid hcont
      have j1 : (j : Int) < (cs.length : Int) := by omega
      have j0 : (0 : Int) ≤ (j : Int) := by omega
      have j2 : (j : Int) ≤ (c2 : Int) := by omega
      have hgo : crGo (cs.take j) (y :: cs.drop (j + 1)) = crB cs := by rw [← HX.out]; exact HC.out
      have HGO := Lib.hid hgo
      have HG2 := HG.out
      clear hcut htl hcont hgo
      by_cases y0 : y < 0
      · have d0 : decide (y < 0) = true := by simp; omega
        have hfin : crB cs = false := by rw [← HGO.out, crGo, if_pos y0]
        have HFin := Lib.hid hfin
        clear hfin hym
        go_wp2_with fail
        go_ret
        exact ⟨ret_bool HFin.out.symm, ⟨f', HR.out, fun h => by rw [HFin.out] at h; cases h⟩, HG2⟩
      · have d0 : decide (y < 0) = false := by simp; omega
        by_cases y9 : 9 < y
        · have d9 : decide ((10 : Int) ≤ y) = true := by simp; omega
          have hfin : crB cs = false := by rw [← HGO.out, crGo, if_neg y0, if_pos y9]
          have HFin := Lib.hid hfin
          clear hfin hym
          go_wp2_with fail
          go_ret
          exact ⟨ret_bool HFin.out.symm, ⟨f', HR.out, fun h => by rw [HFin.out] at h; cases h⟩, HG2⟩
        · have d9 : decide ((10 : Int) ≤ y) = false := by simp; omega
          by_cases ym : y ∈ cs.take j
          · have hfin : crB cs = false := by rw [← HGO.out, crGo, if_neg y0, if_neg y9, if_pos ym]
            have HFin := Lib.hid hfin
            have HYM := Lib.hid ym
            clear hfin hym ym
            go_wp2_with fail
            refine HCONT.out.mono ?_
            rintro e w' ⟨rfl, rfl⟩
            rw [decide_eq_true HYM.out]
            go_wp2_with fail
            go_ret
            exact ⟨ret_bool HFin.out.symm, ⟨f', HR.out, fun h => by rw [HFin.out] at h; cases h⟩, HG2⟩
          · obtain ⟨m, rfl⟩ : ∃ m : Nat, y = (m : Int) := ⟨y.toNat, by omega⟩
            have m10 : m < 10 := by omega
            have c10 := HR.out.cellAt m (by omega)
            rw [List.getElem?_map, rowF_get f' m10] at c10
            have f10 := HR.out.frozenAt m
            have hfm := HFj.out m m10
            have hbm : bump f (cs.take j) m = f m := by unfold bump; rw [if_neg ym]; omega
            have hfb := HF.out m m10
            have st := HR.out.stored m (.int .i64 (f' m + 1))
            rw [map_set_int, rowF_set] at st
            have hst2 : ∀ k, k < 10 → (if k = m then f' m + 1 else f' k) = bump f (cs.take (j + 1)) k := by
              intro k hk
              have htk : cs.take (j + 1) = cs.take j ++ [(m : Int)] := by
                rw [List.take_succ_eq_append_getElem hlt]
                congr 2
                have h3 := List.drop_eq_getElem_cons hlt
                rw [HX.out] at h3
                injection h3 with h3
                exact h3.symm
              rw [htk]
              unfold bump
              by_cases e : k = m
              · subst e
                rw [if_pos rfl, if_pos (by simp), hfm, hbm]
              · rw [if_neg e, HFj.out k hk]
                unfold bump
                have hkm : ¬ (k : Int) = (m : Int) := by omega
                simp only [List.mem_append, List.mem_singleton, hkm, or_false]
            have hcg : crGo (cs.take (j + 1)) (cs.drop (j + 1)) = crB cs := by
              have htk : cs.take (j + 1) = cs.take j ++ [(m : Int)] := by
                rw [List.take_succ_eq_append_getElem hlt]
                congr 2
                have h3 := List.drop_eq_getElem_cons hlt
                rw [HX.out] at h3
                injection h3 with h3
                exact h3.symm
              rw [htk, ← HGO.out, crGo, if_neg y0, if_neg y9, if_neg ym]
            have hfval : 0 ≤ f' m ∧ f' m ≤ 1000000 := by rw [hfm, hbm]; exact hfb
            obtain ⟨v, hv⟩ : ∃ v, v = f' m := ⟨_, rfl⟩
            rw [← hv] at st hst2 hfval
            have c10' : wr.cell? ⟨g, m, none⟩ = some (.int .i64 v) := by rw [hv]; simpa using c10
            have hb3 : wr.grownBy (wr.setCell ⟨g, m, none⟩ (.int .i64 (v + 1))) (some g) := ⟨rfl, rfl, rfl, by simp, fun k _ hk => heap_setCell_other wr ⟨g, m, none⟩ k _ (fun e => hk (by have e' : k = g := e; rw [e']))⟩
            have ST := Lib.hid st.1
            have HF2 := Lib.hid hst2
            have HCG := Lib.hid hcg
            have HG3 := Lib.hid (HG2.trans hb3)
            have hne : w.heap.size ≠ g := by omega
            have HB3 := Lib.hid (HB.out.far (p := ⟨g, m, none⟩) hne (.int .i64 (v + 1)))
            have HA3 := Lib.hid (HA.out.grown hb3)
            have HYM := Lib.hid ym
            obtain ⟨hv0, hv1⟩ := hfval
            have m1 : (m : Int) < 10 := by omega
            have m0 : (0 : Int) ≤ (m : Int) := by omega
            clear st hst2 hcg hb3 hne HG HG2 HA HB HR HFj c10 hfm hbm hfb hv hym ym HC HGO
            go_wp2_with fail
            refine HCONT.out.mono ?_
            rintro e w' ⟨rfl, rfl⟩
            rw [decide_eq_false HYM.out]
            go_wp2_with fail
            go_roundg gg
            case measure => omega
            case rel => exact ⟨j + 1, _, by omega, by go_num, by omega, HCG, ST, HF2, HG3, HB3, HA3⟩
    · obtain rfl : j = cs.length := by omega
      have hfin : crB cs = true := by rw [← HC.out, List.drop_length, List.take_length]; rfl
      have HFin := Lib.hid hfin
      clear hfin
      go_wp2_with fail
      go_ret
      exact ⟨ret_bool HFin.out.symm, ⟨f', HR.out, fun _ k hk => by have := HFj.out k hk; rwa [List.take_length] at this⟩, HG.out⟩
end Go.Proofs.Ytnccpifdajcejaa
namespace Go.Proofs.Ytnccpifdajcejaa
open Go.RowKit

section
variable {w w' : World} {p n : Nat} {b : Nat → Nat} {x : Nat → Int} {f : Nat → Nat}
theorem Ring.below (h : Ring w p n b x f) (hb : Below w.heap.size w w') : Ring w' p n b x f :=
  ⟨h.head.below hb h.head.lt, fun k hk => (h.node k hk).below hb (h.node k hk).lt, h.inj⟩
theorem Ring.at_ (h : Ring w p n b x f) {B : Nat} (hB : w.heap.size ≤ B) (hb : Below B w w') : Ring w' p n b x f :=
  h.below (hb.mono hB)
end

def crimpsTo (n : Nat) (x : Nat → Int) (f : Nat → Nat) (k : Nat) : List Int := ((List.range k).filter (allowedB n x f)).map Int.ofNat
theorem crimpsTo_yes {n k : Nat} {x : Nat → Int} {f : Nat → Nat} (h : allowedB n x f k = true) : crimpsTo n x f (k + 1) = crimpsTo n x f k ++ [(k : Int)] := by
  simp [crimpsTo, List.range_succ, List.filter_append, h]
theorem crimpsTo_no {n k : Nat} {x : Nat → Int} {f : Nat → Nat} (h : allowedB n x f k = false) : crimpsTo n x f (k + 1) = crimpsTo n x f k := by
  simp [crimpsTo, List.range_succ, List.filter_append, h]
theorem crimpsTo_len (n : Nat) (x : Nat → Int) (f : Nat → Nat) (k : Nat) : (crimpsTo n x f k).length ≤ k := by
  have := List.length_filter_le (allowedB n x f) (List.range k)
  simpa [crimpsTo] using this

set_option maxHeartbeats 1000000 in
theorem crimps_any (w : World) (p n : Nat) (b : Nat → Nat) (x : Nat → Int) (f : Nat → Nat) (h : Ring w p n b x f) (hn0 : 0 < n) (hn : n ≤ 100) (hf : ∀ k, f k < 256) :
    Calls Try.prog 83 #[ptr p] w fun e w' => ∃ v, e = .returned v ∧ Own w' w.heap.size v (crimpsTo n x f n) ∧ Below w.heap.size w w' := by
  have c2 := (h.below ((Below.refl _ _).alloc (Nat.le_refl _) (.cells #[] 3))).first
  go_enter Try.func83, Try.ntmps83
  go_wp2
  go_loopg [3, 4, 5] (n + 1) (fun g s3 s4 s5 wr => ∃ k, k ≤ n ∧ s5 = .int .i64 k ∧ s4 = ptr (b (if k = n then 0 else k)) ∧ n - k < g ∧ Own wr w.heap.size s3 (crimpsTo n x f k) ∧ Below w.heap.size w wr)
  case atStart => exact ⟨0, Nat.zero_le _, rfl, by rw [if_neg (by omega)], by omega, own_empty w (Nat.le_refl _), (Below.refl _ _).alloc (Nat.le_refl _) _⟩
  case round =>
    obtain ⟨k, hk, rfl, rfl, hg, hown, hbel⟩ := hrel
    have hr := h.below hbel
    have d1 := hr.many
    have hsz := hbel.size
    cases gk with
    | zero => omega
    | succ g =>
    by_cases hlt : k < n
    · rw [if_neg (Nat.ne_of_lt hlt)]
      have hlen := crimpsTo_len n x f k
      have d2 := hr.next hlt
      have hcur : b (if k + 1 = n then 0 else k + 1) = b (nxt n k) := rfl
      have HC := Lib.hid hcur; clear hcur
      cases ha : allowedB n x f k with
      | true =>
        have hy := crimpsTo_yes ha
        have HY := Lib.hid hy; clear hy
        have HA := Lib.hid ha; clear ha
        go_wp2_with fail
        refine (allowed_any wr p n b x f k hr hlt hn hf).mono ?_
        rintro e w1 ⟨rfl, m, rfl⟩
        rw [HA.out]
        go_wp2_with (at_builtin; go_loud (refine wpList_push (W := wr.drewN m) rfl _ _ rfl w.heap.size _ _ k (by rfl) (by rfl) hown hsz (by omega) ?_))
        intro v' w2 hown2 hgr hb2
        have hbel2 := (below_drewN hbel m).trans hb2
        have hr2 := h.below hbel2
        have d3 := hr2.next hlt
        clear hown d1 d2 hr hb2 hgr
        go_wp2
        go_roundg g
        case measure => omega
        case rel => exact ⟨k + 1, by omega, by go_num, by rw [HC.out], by omega, by rw [HY.out]; exact hown2, hbel2⟩
      | false =>
        have hy := crimpsTo_no ha
        have HY := Lib.hid hy; clear hy
        have HA := Lib.hid ha; clear ha
        go_wp2_with fail
        refine (allowed_any wr p n b x f k hr hlt hn hf).mono ?_
        rintro e w1 ⟨rfl, m, rfl⟩
        rw [HA.out]
        go_wp2
        go_roundg g
        case measure => omega
        case rel => exact ⟨k + 1, by omega, by go_num, by rw [HC.out], by omega, by rw [HY.out]; exact hown, below_drewN hbel m⟩
    · obtain rfl : k = n := by omega
      go_wp2
      go_ret
      exact ⟨_, rfl, hown, hbel⟩

end Go.Proofs.Ytnccpifdajcejaa
