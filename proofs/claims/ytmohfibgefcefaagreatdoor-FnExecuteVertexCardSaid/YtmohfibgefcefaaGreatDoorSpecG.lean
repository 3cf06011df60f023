/- The reference's VertexCrimps and VertexCrimp: as the program's. No condition but sizes. -/
import Derived.Test.YtmohfibgefcefaaGreatDoorSpecF
import Derived.Test.YtmohfibgefcefaaGreatDoorImplD
namespace Go.Proofs.YtmohfibgefcefaaGreatDoor
open Go.RowKit

theorem angles_ext {xs ys : List Int} (h : xs.length = ys.length) (ha : ∀ k, k < xs.length → angleAt xs k = angleAt ys k) : xs = ys := by
  apply List.ext_getElem h
  intro k h1 h2
  have := ha k h1
  unfold angleAt at this
  simpa [List.getD_eq_getElem?_getD, h1, h2] using this
theorem bytes_ext {s t : ByteArray} (h : s.size = t.size) (ha : ∀ k, k < s.size → byteAt s k = byteAt t k) : s = t := by
  apply ByteArray.ext
  apply Array.ext'
  apply List.ext_getElem
  · simpa using h
  · intro k h1 h2
    have := ha k (by simpa using h1)
    unfold byteAt at this
    rw [List.getD_eq_getElem?_getD, List.getD_eq_getElem?_getD, List.getElem?_eq_getElem h1, List.getElem?_eq_getElem h2] at this
    exact UInt8.toNat_inj.1 this
theorem crimped_eq {xs : List Int} {s : ByteArray} {i : Nat} {xs' : List Int} {s' : ByteArray} (h : Crimped xs s i xs' s') : xs' = vcrX xs i ∧ s' = vcrF xs s i := by
  refine ⟨angles_ext ?_ fun k hk => ?_, bytes_ext ?_ fun k hk => ?_⟩
  · rw [h.len]; unfold vcrX; rw [angTo_len]
  · rw [h.len] at hk
    rw [h.angle k hk]
    unfold vcrX
    rw [angleAt_angTo _ hk]
  · rw [h.size]; unfold vcrF; simp [ByteArray.size, folTo_len]
  · rw [h.size] at hk
    rw [h.fold k hk]
    unfold vcrF
    exact (byteAt_folTo (fun k => byteAt s (sig xs.length i k)) hk (byteAt_lt _ _)).symm

set_option maxHeartbeats 800000 in
theorem spec_VertexCrimps (A : Option Addr) (cap : Nat) (xs : List Int) (s : ByteArray) (w : World) (h : Ints w A xs) (hl : xs.length ≤ maxLen) (hs : s.size ≤ maxLen) :
    Calls Tryz.prog 57 #[.slice A xs.length cap, .string s] w fun e w' => ∃ v, e = .returned v ∧ Own w' w.heap.size v (vcL xs s) ∧ Below w.heap.size w w' := by
  cases hv : avB xs with
  | false =>
    have HV := Lib.hid hv; clear hv
    go_enter Tryz.func57, Tryz.ntmps57
    go_wp2_with fail
    refine (spec_AnglesValid A cap xs w h hl).mono ?_
    rintro e w' ⟨rfl, rfl⟩
    rw [HV.out]
    go_wp2_with fail
    go_ret
    exact ⟨_, rfl, by unfold vcL; rw [HV.out]; exact own_empty w (Nat.le_refl _), (Below.refl _ _).alloc (Nat.le_refl _) _⟩
  | true =>
    obtain ⟨_, h2, h10, hx, _⟩ := avB_parts hv
    have HV := Lib.hid hv; clear hv
    clear hx
    cases hf : fvB s.data.toList xs.length with
    | false =>
      have HF := Lib.hid hf; clear hf
      go_enter Tryz.func57, Tryz.ntmps57
      go_wp2_with fail
      refine (spec_AnglesValid A cap xs w h hl).mono ?_
      rintro e w' ⟨rfl, rfl⟩
      rw [HV.out]
      go_wp2_with fail
      refine (spec_FoldsValid s xs.length w hs).mono ?_
      rintro e w' ⟨rfl, rfl⟩
      rw [HF.out]
      go_wp2_with fail
      go_ret
      exact ⟨_, rfl, by unfold vcL; rw [HV.out, HF.out]; exact own_empty w (Nat.le_refl _), (Below.refl _ _).alloc (Nat.le_refl _) _⟩
    | true =>
      have hsz := fvB_size hf
      have HF := Lib.hid hf; clear hf
      have HS := Lib.hid hsz; clear hsz
      go_enter Tryz.func57, Tryz.ntmps57
      go_wp2_with fail
      refine (spec_AnglesValid A cap xs w h hl).mono ?_
      rintro e w' ⟨rfl, rfl⟩
      rw [HV.out]
      go_wp2_with fail
      refine (spec_FoldsValid s xs.length w hs).mono ?_
      rintro e w' ⟨rfl, rfl⟩
      rw [HF.out]
      go_wp2_with fail
      refine (spec_l1Crimps A cap xs s w h (by omega) HS.out).mono ?_
      rintro e w2 ⟨v, rfl, hown, hb2⟩
      go_wp2_with fail
      go_ret
      refine ⟨_, rfl, ?_, hb2⟩
      unfold vcL
      rw [HV.out, HF.out]
      exact hown

set_option maxHeartbeats 2000000 in
theorem spec_VertexCrimp (A : Option Addr) (cap : Nat) (xs : List Int) (s : ByteArray) (i : Int) (w : World) (h : Ints w A xs) (hl : xs.length ≤ maxLen) (hs : s.size ≤ maxLen) (hcap : xs.length ≤ cap) (hcm : cap ≤ maxLen) :
    Calls Tryz.prog 25 #[.slice A xs.length cap, .string s, .int .i64 i] w fun e w' => ∃ v, e = .returned (.tuple #[v, .string (vcS xs s i), .bool (vcB xs s i)]) ∧ Own w' w.heap.size v (vcY xs s i) ∧ Below w.heap.size w w' := by
  go_enter Tryz.func25, Tryz.ntmps25
  go_wp2_with fail
  refine (spec_VertexCrimps A cap xs s w h hl hs).mono ?_
  rintro e w1 ⟨v, rfl, hown, hb1⟩
  obtain ⟨A1, c1, rfl, hI1, hc1, hm1⟩ := hown.form
  have hlL : (vcL xs s).length ≤ maxLen := Nat.le_trans hc1 hm1
  unfold maxLen at hlL
  have hI := h.below hb1
  clear hown
  go_wp2_with fail
  go_loopg [10] ((vcL xs s).length + 1) (fun g s10 wr => w1 = wr ∧ ∃ k, k ≤ (vcL xs s).length ∧ s10 = .int .i64 k ∧ (vcL xs s).length - k < g ∧ Hid ((i ∈ vcL xs s) = (i ∈ (vcL xs s).drop k)))
  case atStart => exact ⟨rfl, 0, Nat.zero_le _, rfl, by omega, rfl⟩
  case round =>
    obtain ⟨rfl, k, hk, rfl, hg, H⟩ := hrel
    cases gk with
    | zero => omega
    | succ g =>
    by_cases hlt : k < (vcL xs s).length
    · obtain ⟨b, off, y, rfl, hb, HY, hc, hm⟩ := hI1.at_ hlt
      by_cases q : y = i
      · subst q
        obtain ⟨va, vf, v0, vn, v4, val⟩ := vcL_mem hm
        obtain ⟨_, h2, h10, hx, _⟩ := avB_parts va
        have hsz := fvB_size vf
        have hB : vcB xs s y = true := by unfold vcB; rw [decide_eq_true hm]
        have HB := Lib.hid hB
        have HX := Lib.hid hx
        have HS := Lib.hid hsz
        obtain ⟨j, rfl⟩ := Int.eq_ofNat_of_zero_le v0
        rw [Int.toNat_natCast] at vn
        have d1 : (((j : Int)) == ((j : Int))) = true := by simp
        obtain ⟨bb, off', _, rfl, _, _, _, _⟩ := hI.at_ (k := 0) (by omega)
        clear va vf v0 val hm hB hx hsz
        go_wp2_with fail
        refine (spec_l1Crimp_n bb off' cap xs.length xs s j w1 hI (Lib.hid rfl) v4 (by omega) hcap hcm HS vn (Lib.hid fun k hk => by have := HX.out _ (angleAt_mem hk); omega)).mono ?_
        rintro e w2 ⟨v, xs', s', rfl, hown2, hcr, hb2⟩
        obtain ⟨rfl, rfl⟩ := crimped_eq hcr
        have hb2' := below_from hb1 hb2 hb1.size
        have hw1 := hb1.size
        clear hcr
        go_wp2_with fail
        go_ret3
        refine ⟨v, ?_, ?_, hb2'⟩
        · unfold vcS
          rw [if_pos HB.out, HB.out]
          rfl
        · unfold vcY
          rw [if_pos HB.out]
          exact own_lower hown2 (by omega)
      · have d1 : (y == i) = false := by rw [beq_eq_false_iff_ne]; exact q
        have HN := Lib.hid (mem_drop_step HY.out q)
        clear q hm
        go_wp2_with fail
        go_roundg g
        case measure => omega
        case rel => exact ⟨rfl, k + 1, by omega, by go_num, by omega, H.out.trans HN.out⟩
    · obtain rfl : k = (vcL xs s).length := by omega
      have hB : vcB xs s i = false := by
        unfold vcB
        rw [decide_eq_false]
        rw [H.out, List.drop_length]
        simp
      have HB := Lib.hid hB
      clear hB
      have hw1 := hb1.size
      go_wp2_with fail
      go_ret3
      refine ⟨.slice (some ⟨w1.heap.size, 0, none⟩) 0 0, ?_, ?_, hb1.alloc hw1 _⟩
      · unfold vcS
        rw [HB.out]
        rfl
      · unfold vcY
        rw [HB.out]
        exact own_empty w1 hw1

end Go.Proofs.YtmohfibgefcefaaGreatDoor
