/- Parts laid flat: the numbers of right layers of a ring and of a strip. No condition but sizes. -/
import Derived.Test.YtnckbiacfnokiaaFlatH
namespace Go.Proofs.Ytnckbiacfnokiaa
open Go.RowKit

theorem fdR_mem {xs : List Int} {s : ByteArray} {n k : Nat} (hk : k ≤ n) : ∀ f ∈ fdR xs s n k, f.1 < n ∧ f.2.1 < n := by
  intro f hf
  unfold fdR at hf
  obtain ⟨j, hj, rfl⟩ := List.mem_map.1 hf
  rw [List.mem_range] at hj
  exact ⟨Nat.mod_lt _ (by omega), by show j < n; omega⟩
theorem fdS_mem {xs : List Int} {s : ByteArray} {n k : Nat} (hk : k < n) : ∀ f ∈ fdS xs s k, f.1 < n ∧ f.2.1 < n := by
  intro f hf
  unfold fdS at hf
  obtain ⟨j, hj, rfl⟩ := List.mem_map.1 hf
  rw [List.mem_range] at hj
  exact ⟨by show j < n; omega, by show j + 1 < n; omega⟩
/-- the number of right layers of a ring that closes -/
def rmany (xs : List Int) (s : ByteArray) : Nat := rcount xs.length (plcL xs) (fdR xs s xs.length xs.length)
/-- the number of right layers of a strip -/
def smany (xs : List Int) (s : ByteArray) : Nat := rcount xs.length (plcL xs) (fdS xs s s.size)
set_option maxHeartbeats 400000 in
set_option maxRecDepth 100000 in
theorem impl_RingMany (A : Option Addr) (cap : Nat) (xs : List Int) (s : ByteArray) (w : World) (h : Ints w A xs) (hr : rvB xs s.data.toList = true) :
    Calls Try.prog 15 #[.slice A xs.length cap, .string s] w fun e w' => e = .returned (.int .i64 (rmany xs s : Nat)) ∧ Below w.heap.size w w' := by
  have hrr := hr
  unfold rvB at hrr
  simp only [Bool.and_eq_true, decide_eq_true_eq] at hrr
  obtain ⟨⟨⟨h1, h2⟩, h3⟩, h5⟩ := hrr
  obtain ⟨l1, l6, hx⟩ := lvB_parts h1
  have hss : s.size = xs.length := fvB_size h3
  have HV := Lib.hid (impl_RingValid A cap xs s w h (by unfold maxLen; omega) (by unfold maxLen; omega))
  have HF := Lib.hid (impl_flatRing A cap xs s w h (by omega) (fun x hm => ⟨by have := (hx x hm).1; omega, (hx x hm).2⟩) hss)
  have HC := Lib.hid (fun (r : Nat) (W : World) (hF : Flat W r w.heap.size xs.length (plcL xs) (fdR xs s xs.length xs.length)) => impl_count r w.heap.size xs.length (plcL xs) (fdR xs s xs.length xs.length) W hF (by omega) (plcL_len xs) (by intro e; have := congrArg List.length e; rw [fdR_len, List.length_nil] at this; omega) (by rw [fdR_len]; omega) (fdR_mem (Nat.le_refl _)))
  rw [hr] at HV
  have HM : Hid (rmany xs s = rcount xs.length (plcL xs) (fdR xs s xs.length xs.length)) := rfl
  obtain ⟨z, hz⟩ : ∃ z, z = rcount xs.length (plcL xs) (fdR xs s xs.length xs.length) := ⟨_, rfl⟩
  rw [← hz] at HC HM
  clear h1 h2 h3 h5 hx hr h hz
  go_enter Try.func15, Try.ntmps15
  go_wp2_with fail
  refine HV.out.mono ?_
  rintro e w' ⟨rfl, rfl⟩
  go_wp2_with fail
  refine HF.out.mono ?_
  rintro e w1 ⟨r, rfl, hF, hb1⟩
  have HFF := Lib.hid (HC.out r w1 hF)
  have HB := Lib.hid hb1
  clear hF hb1 HF HC
  go_wp2_with fail
  refine HFF.out.mono ?_
  rintro e w2 ⟨rfl, hb2⟩
  have HB2 := Lib.hid (HB.out.trans (hb2.mono HB.out.size))
  clear hb2
  go_wp2_with fail
  go_ret
  exact ⟨ret_int (by rw [HM.out]), HB2.out⟩
end Go.Proofs.Ytnckbiacfnokiaa
