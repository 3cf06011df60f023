/- The program's VertexCrimps and VertexCrimp. No condition but sizes. -/
import Derived.Test.YtmohfibgefcefaaGreatDoorImplB
import Derived.Test.YtmohfibgefcefaaGreatDoorImplC
namespace Go.Proofs.YtmohfibgefcefaaGreatDoor
open Go.RowKit

/-- the allowed crimps of a vertex -/
def vcL (xs : List Int) (s : ByteArray) : List Int := if avB xs && fvB s.data.toList xs.length then crimpsTo xs.length (angleAt xs) (byteAt s) xs.length else []
def vcrX (xs : List Int) (i : Nat) : List Int := angTo (crimpX xs.length (angleAt xs) i) (xs.length - 2)
def vcrF (xs : List Int) (s : ByteArray) (i : Nat) : ByteArray := ⟨(folTo (fun k => byteAt s (sig xs.length i k)) (xs.length - 2)).toArray⟩
def vcB (xs : List Int) (s : ByteArray) (i : Int) : Bool := decide (i ∈ vcL xs s)
def vcY (xs : List Int) (s : ByteArray) (i : Int) : List Int := if vcB xs s i then vcrX xs i.toNat else []
def vcS (xs : List Int) (s : ByteArray) (i : Int) : ByteArray := if vcB xs s i then vcrF xs s i.toNat else ByteArray.empty

theorem vcL_mem {xs : List Int} {s : ByteArray} {i : Int} (h : i ∈ vcL xs s) : avB xs = true ∧ fvB s.data.toList xs.length = true ∧ 0 ≤ i ∧ i.toNat < xs.length ∧ 4 ≤ xs.length ∧ allowedB xs.length (angleAt xs) (byteAt s) i.toNat = true := by
  unfold vcL at h
  split at h
  · next hc =>
    rw [Bool.and_eq_true] at hc
    unfold crimpsTo at h
    rw [List.mem_map] at h
    obtain ⟨k, hk, rfl⟩ := h
    rw [List.mem_filter, List.mem_range] at hk
    refine ⟨hc.1, hc.2, by simp, by simpa using hk.1, ?_, by simpa using hk.2⟩
    have := hk.2
    unfold allowedB at this
    by_cases h4 : xs.length < 4
    · rw [if_pos h4] at this; cases this
    · omega
  · cases h

set_option maxHeartbeats 800000 in
theorem impl_VertexCrimps (A : Option Addr) (cap : Nat) (xs : List Int) (s : ByteArray) (w : World) (h : Ints w A xs) (hl : xs.length ≤ maxLen) (hs : s.size ≤ maxLen) :
    Calls Tryz.prog 59 #[.slice A xs.length cap, .string s] w fun e w' => ∃ v, e = .returned v ∧ Own w' w.heap.size v (vcL xs s) ∧ Below w.heap.size w w' := by
  cases hv : avB xs with
  | false =>
    have HV := Lib.hid hv; clear hv
    go_enter Tryz.func59, Tryz.ntmps59
    go_wp2_with fail
    refine (impl_AnglesValid A cap xs w h hl).mono ?_
    rintro e w' ⟨rfl, rfl⟩
    rw [HV.out]
    go_wp2_with fail
    go_ret
    exact ⟨_, rfl, by unfold vcL; rw [HV.out]; exact own_empty w (Nat.le_refl _), (Below.refl _ _).alloc (Nat.le_refl _) _⟩
  | true =>
    obtain ⟨_, h2, h10, hx, _⟩ := avB_parts hv
    have HV := Lib.hid hv; clear hv
    have HX := Lib.hid hx; clear hx
    cases hf : fvB s.data.toList xs.length with
    | false =>
      have HF := Lib.hid hf; clear hf
      go_enter Tryz.func59, Tryz.ntmps59
      go_wp2_with fail
      refine (impl_AnglesValid A cap xs w h hl).mono ?_
      rintro e w' ⟨rfl, rfl⟩
      rw [HV.out]
      go_wp2_with fail
      refine (impl_FoldsValid s xs.length w hs).mono ?_
      rintro e w' ⟨rfl, rfl⟩
      rw [HF.out]
      go_wp2_with fail
      go_ret
      exact ⟨_, rfl, by unfold vcL; rw [HV.out, HF.out]; exact own_empty w (Nat.le_refl _), (Below.refl _ _).alloc (Nat.le_refl _) _⟩
    | true =>
      have hsz := fvB_size hf
      have HF := Lib.hid hf; clear hf
      have HS := Lib.hid hsz; clear hsz
      go_enter Tryz.func59, Tryz.ntmps59
      go_wp2_with fail
      refine (impl_AnglesValid A cap xs w h hl).mono ?_
      rintro e w' ⟨rfl, rfl⟩
      rw [HV.out]
      go_wp2_with fail
      refine (impl_FoldsValid s xs.length w hs).mono ?_
      rintro e w' ⟨rfl, rfl⟩
      rw [HF.out]
      go_wp2_with fail
      refine (newRing_any w A cap xs s h (by omega) (by omega) (by have := HS.out; omega) (by have := HS.out; omega)).mono ?_
      rintro e w1 ⟨rfl, R, hb1⟩
      go_wp2_with fail
      refine (crimps_any w1 w.heap.size xs.length _ (angleAt xs) (byteAt s) R (by omega) (by omega) (byteAt_lt s)).mono ?_
      rintro e w2 ⟨v, rfl, hown, hb2⟩
      have hsz1 := hb1.size
      go_wp2_with fail
      go_ret
      refine ⟨_, rfl, ?_, below_from hb1 hb2 hsz1⟩
      unfold vcL
      rw [HV.out, HF.out]
      obtain ⟨k1, k2⟩ := hown
      refine ⟨k1, ?_⟩
      rcases k2 with h0 | ⟨g, cap, cur, e, hb, rest⟩
      · exact Or.inl h0
      · exact Or.inr ⟨g, cap, cur, e, by omega, rest⟩

theorem own_lower {w : World} {B B' : Nat} {e : TypeId} {z n : Nat} {v : Value} {xs : List Value} (h : w.ownsRow B e z v n xs) (hB : B' ≤ B) : w.ownsRow B' e z v n xs := by
  obtain ⟨k1, k2⟩ := h
  refine ⟨k1, ?_⟩
  rcases k2 with h0 | ⟨g, cap, cur, e, hb, rest⟩
  · exact Or.inl h0
  · exact Or.inr ⟨g, cap, cur, e, by omega, rest⟩

theorem mem_drop_step {l r : List Int} {k : Nat} {y i : Int} (h : l.drop k = y :: r) (hne : ¬ y = i) : (i ∈ l.drop k) = (i ∈ r) := by
  rw [h, List.mem_cons]
  simp [show ¬ i = y from fun e => hne e.symm]

set_option maxHeartbeats 2000000 in
theorem impl_VertexCrimp (A : Option Addr) (cap : Nat) (xs : List Int) (s : ByteArray) (i : Int) (w : World) (h : Ints w A xs) (hl : xs.length ≤ maxLen) (hs : s.size ≤ maxLen) :
    Calls Tryz.prog 24 #[.slice A xs.length cap, .string s, .int .i64 i] w fun e w' => ∃ v, e = .returned (.tuple #[v, .string (vcS xs s i), .bool (vcB xs s i)]) ∧ Own w' w.heap.size v (vcY xs s i) ∧ Below w.heap.size w w' := by
  go_enter Tryz.func24, Tryz.ntmps24
  go_wp2_with fail
  refine (impl_VertexCrimps A cap xs s w h hl hs).mono ?_
  rintro e w1 ⟨v, rfl, hown, hb1⟩
  obtain ⟨A1, c1, rfl, hI1, hc1, hm1⟩ := hown.form
  have hlL : (vcL xs s).length ≤ maxLen := Nat.le_trans hc1 hm1
  unfold maxLen at hlL
  have hI := h.below hb1
  clear hown
  go_wp2_with fail
  go_loopg [18] ((vcL xs s).length + 1) (fun g s18 wr => w1 = wr ∧ ∃ k, k ≤ (vcL xs s).length ∧ s18 = .int .i64 k ∧ (vcL xs s).length - k < g ∧ Hid ((i ∈ vcL xs s) = (i ∈ (vcL xs s).drop k)))
  case atStart => exact ⟨rfl, 0, Nat.zero_le _, rfl, by omega, rfl⟩
  case round =>
    obtain ⟨rfl, k, hk, rfl, hg, H⟩ := hrel
    cases gk with
    | zero => omega
    | succ g =>
    by_cases hlt : k < (vcL xs s).length
    · obtain ⟨b, off, y, rfl, hb, HY, hc, hm⟩ := hI1.at_ hlt
      by_cases q : y = i
      · subst q
        obtain ⟨va, vf, v0, vn, v4, val⟩ := vcL_mem hm
        obtain ⟨_, h2, h10, hx, _⟩ := avB_parts va
        have hsz := fvB_size vf
        have hB : vcB xs s y = true := by unfold vcB; rw [decide_eq_true hm]
        have HB := Lib.hid hB
        have HX := Lib.hid hx
        have HS := Lib.hid hsz
        obtain ⟨j, rfl⟩ := Int.eq_ofNat_of_zero_le v0
        rw [Int.toNat_natCast] at vn
        have d1 : (((j : Int)) == ((j : Int))) = true := by simp
        clear va vf v0 val hm hB hx hsz
        go_wp2_with fail
        refine (newRing_any w1 A cap xs s hI (by omega) (by omega) (by have := HS.out; omega) (by have := HS.out; omega)).mono ?_
        rintro e w2 ⟨rfl, R, hb2⟩
        have hsz2 := hb2.size
        go_wp2_with fail
        refine (crimp_any w2 w1.heap.size w1.heap.size xs.length _ (angleAt xs) (byteAt s) j R vn v4 (by omega) (fun k hk => by have := HX.out _ (angleAt_mem hk); omega) (Nat.le_refl _) (fun k _ => by show w1.heap.size ≤ w1.heap.size + 1 + k; omega)).mono ?_
        rintro e w3 ⟨rfl, R3, hb3⟩
        have hb3' := hb2.trans hb3
        have hsz3 := hb3'.size
        go_wp2_with fail
        refine (list_any w3 w1.heap.size (xs.length - 2) _ _ _ R3 (by omega) (by omega) (fun k => byteAt_lt s _)).mono ?_
        rintro e w4 ⟨v4', rfl, hown4, hb4⟩
        have hb4' := below_from hb1 (below_from hb3' hb4 hsz3) hb1.size
        have hw1 := hb1.size
        go_wp2_with fail
        go_ret3
        refine ⟨v4', ?_, ?_, hb4'⟩
        · unfold vcS
          rw [if_pos HB.out, HB.out]
          rfl
        · unfold vcY
          rw [if_pos HB.out]
          exact own_lower hown4 (by omega)
      · have d1 : (y == i) = false := by rw [beq_eq_false_iff_ne]; exact q
        have HN := Lib.hid (mem_drop_step HY.out q)
        clear q hm
        go_wp2_with fail
        go_roundg g
        case measure => omega
        case rel => exact ⟨rfl, k + 1, by omega, by go_num, by omega, H.out.trans HN.out⟩
    · obtain rfl : k = (vcL xs s).length := by omega
      have hB : vcB xs s i = false := by
        unfold vcB
        rw [decide_eq_false]
        rw [H.out, List.drop_length]
        simp
      have HB := Lib.hid hB
      clear hB
      have hw1 := hb1.size
      go_wp2_with fail
      go_ret3
      refine ⟨.slice (some ⟨w1.heap.size, 0, none⟩) 0 0, ?_, ?_, hb1.alloc hw1 _⟩
      · unfold vcS
        rw [HB.out]
        rfl
      · unfold vcY
        rw [HB.out]
        exact own_empty w1 hw1

end Go.Proofs.YtmohfibgefcefaaGreatDoor
