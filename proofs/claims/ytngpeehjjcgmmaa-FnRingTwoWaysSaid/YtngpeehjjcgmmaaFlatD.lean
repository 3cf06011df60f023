/- Parts laid flat: a strip, a ring. No condition but sizes. -/
import Derived.Test.YtngpeehjjcgmmaaFlatC
import Derived.Test.YtngpeehjjcgmmaaImplB
namespace Go.Proofs.Ytngpeehjjcgmmaa
open Go.RowKit

/-- is the byte k of a text a V -/
def isV (s : ByteArray) (k : Nat) : Bool := ((s.data.toList.getD k 0).toNat : Int) == 86
theorem isV_at {s : ByteArray} {k : Nat} (h : k < s.size) : isV s k = (((s[k]'h).toNat : Int) == 86) := by
  unfold isV
  rw [List.getD_eq_getElem?_getD, List.getElem?_eq_getElem (by simpa using h)]; rfl
/-- the folds of a strip -/
def fdS (xs : List Int) (s : ByteArray) (k : Nat) : List Fd := (List.range k).map fun j => (j, j + 1, plcAt xs (j + 1), isV s j == (j % 2 == 0))
/-- the folds of a ring of n parts -/
def fdR (xs : List Int) (s : ByteArray) (n k : Nat) : List Fd := (List.range k).map fun j => ((j + n - 1) % n, j, plcAt xs j, isV s j == ((j + n - 1) % n % 2 == 0))
theorem fdS_len (xs : List Int) (s : ByteArray) (k : Nat) : (fdS xs s k).length = k := by simp [fdS]
theorem fdR_len (xs : List Int) (s : ByteArray) (n k : Nat) : (fdR xs s n k).length = k := by simp [fdR]
theorem fdS_succ (xs : List Int) (s : ByteArray) (k : Nat) : fdS xs s (k + 1) = fdS xs s k ++ [(k, k + 1, plcAt xs (k + 1), isV s k == (k % 2 == 0))] := by simp [fdS, List.range_succ]
theorem fdR_succ (xs : List Int) (s : ByteArray) (n k : Nat) : fdR xs s n (k + 1) = fdR xs s n k ++ [((k + n - 1) % n, k, plcAt xs k, isV s k == ((k + n - 1) % n % 2 == 0))] := by simp [fdR, List.range_succ]
theorem plcL_len (xs : List Int) : (plcL xs).length = xs.length + 1 := plcTo_len xs _
theorem plcL_at {xs : List Int} {k : Nat} (h : k < (plcL xs).length) : (plcL xs)[k] = plcAt xs k := by
  have := plcTo_get (xs := xs) (m := xs.length + 1) (k := k) (by rw [← plcL_len]; exact h)
  rw [List.getElem?_eq_getElem (by exact h)] at this
  exact Option.some.inj this
theorem Flat.new {w : World} {B n : Nat} {ps : List Int} {A : Option Addr} {c : Nat} (h : Own w B (.slice A ps.length c) ps) (hB : B ≤ w.heap.size) : Flat (w.alloc (.cells #[.int .i64 n, .slice A ps.length c, .slice none 0 0] 68)) w.heap.size B n ps [] :=
  ⟨A, c, .slice none 0 0, Blk.new w _ _, own_below2' h ((Below.refl _ _).alloc (Nat.le_refl _) _), ⟨rfl, Or.inl ⟨rfl, rfl⟩⟩, hB⟩
set_option maxHeartbeats 1000000 in
set_option maxRecDepth 100000 in
theorem impl_flatRing (A : Option Addr) (cap : Nat) (xs : List Int) (s : ByteArray) (w : World) (h : Ints w A xs) (hl : xs.length ≤ 100) (hx : ∀ x ∈ xs, 0 ≤ x ∧ x ≤ 1000) (hs : s.size = xs.length) :
    Calls Try.prog 29 #[.slice A xs.length cap, .string s] w fun e w' => ∃ r, e = .returned (ptr r) ∧ Flat w' r w.heap.size xs.length (plcL xs) (fdR xs s xs.length xs.length) ∧ Below w.heap.size w w' := by
  obtain ⟨n, hn⟩ : ∃ n, n = xs.length := ⟨_, rfl⟩
  have HPL : Hid (Calls Try.prog 49 #[.slice A xs.length cap] w fun e w' => ∃ v, e = .returned v ∧ Own w' w.heap.size v (plcL xs) ∧ Below w.heap.size w w') := impl_placesOf A cap xs w h hl hx
  have hpl := plcL_len xs
  rw [← hn] at hs hl hpl HPL ⊢
  have HPN := Lib.hid hpl
  clear hn h hx hpl
  go_enter Try.func29, Try.ntmps29
  go_wp2_with fail
  refine HPL.out.mono ?_
  rintro e w1 ⟨v, rfl, hP, hb1⟩
  obtain ⟨Ap, cp, rfl, _, _, _⟩ := hP.form
  have HF := Lib.hid (Flat.new (n := n) hP hb1.size)
  have HB := Lib.hid (hb1.alloc hb1.size (.cells #[.int .i64 n, .slice Ap (plcL xs).length cp, .slice none 0 0] 68))
  have hz1 := hb1.size
  obtain ⟨r, hr⟩ : ∃ r, r = w1.heap.size := ⟨_, rfl⟩
  rw [← hr] at HF
  clear hP hb1 HPL
  go_wp2_with fail
  rw [← hr]
  go_loopg [7] (n + 1) (fun g s7 wr => ∃ (k : Nat), k ≤ n ∧ s7 = .int .i64 k ∧ n - k < g ∧ Hid (Flat wr r w.heap.size n (plcL xs) (fdR xs s n k)) ∧ Hid (Below w.heap.size w wr))
  case atStart => exact ⟨0, Nat.zero_le _, rfl, by omega, HF, HB⟩
  case round =>
    clear HF HB hr
    obtain ⟨k, hk, rfl, hg, HF, HB⟩ := hrel
    cases gk with
    | zero => omega
    | succ g =>
    by_cases hlt : k < n
    · have hks : k < s.size := by omega
      obtain ⟨q, hq⟩ : ∃ q, q = (k + n - 1) % n := ⟨_, rfl⟩
      have hqn : q < n := by rw [hq]; exact Nat.mod_lt _ (by omega)
      have HE : Hid (fdR xs s n k ++ [(q, k, plcAt xs k, (((s[k]).toNat : Int) == 86) == (q % 2 == 0))] = fdR xs s n (k + 1)) := by
        show _ = _
        rw [fdR_succ, isV_at hks, hq]
      have HA := Lib.hid (fun W (hF : Flat W r w.heap.size n (plcL xs) (fdR xs s n k)) (hz : w.heap.size ≤ W.heap.size) => impl_addFold r w.heap.size n q k s[k] (plcL xs) (fdR xs s n k) (plcAt xs k) W hF (by rw [HPN.out]; omega) (plcL_at _) (by rw [HPN.out]; omega) (by rw [fdR_len]; omega) (by omega) hz)
      have w1 : IntKind.i64.wrap ((k : Int) + (n : Int)) = ((k + n : Nat) : Int) := by rw [IntWalk.i64_in _ (by omega)]; omega
      have w2 : IntKind.i64.wrap (((k + n : Nat) : Int) - 1) = ((k + n - 1 : Nat) : Int) := by rw [IntWalk.i64_in _ (by omega)]; omega
      have w2b : IntKind.i64.wrap ((k : Int) + (n : Int) - 1) = ((k + n - 1 : Nat) : Int) := by rw [IntWalk.i64_in _ (by omega)]; omega
      have w3 : ((k + n - 1 : Nat) : Int).tmod (n : Int) = (q : Int) := by rw [hq]; exact (Int.ofNat_tmod _ _).symm
      have w4 : IntKind.i64.wrap (q : Int) = (q : Int) := IntWalk.i64_in _ (by omega)
      have n0 : ((n : Int) == 0) = false := by rw [beq_eq_false_iff_ne]; omega
      have n1 : (n : Int) ≠ 0 := by omega
      have n2 : n ≠ 0 := by omega
      have n3 : ¬ (n = 0) := by omega
      clear hq
      go_wp2_with fail
      go_region_held3 (fun W => True) (trivial) ((go_simp; go_at_call 50; refine (HA.out _ (HF.out.below (below_drewN (Below.refl _ _) _)) HB.out.size).mono ?_; rintro e w5 ⟨rfl, hF2, hb2⟩))
      all_goals
        rw [HE.out] at hF2
        have HF2 := Lib.hid hF2
        have HB2 := Lib.hid ((below_drewN HB.out 1).trans hb2)
        clear hF2 hb2 HA HB HF
        go_wp2_with fail
        go_roundg g
        case measure => omega
        case rel => exact ⟨k + 1, by omega, by go_num, by omega, HF2, HB2⟩
    · obtain rfl : k = n := by omega
      go_wp2_with fail
      go_ret
      exact ⟨r, rfl, HF.out, HB.out⟩
end Go.Proofs.Ytngpeehjjcgmmaa
