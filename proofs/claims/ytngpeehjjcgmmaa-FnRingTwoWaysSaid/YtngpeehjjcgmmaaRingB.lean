/- The program's 'crimps': the list of the indexes at which 'allowed' answers yes. No condition. -/
import Derived.Test.YtngpeehjjcgmmaaRingA
namespace Go.Proofs.Ytngpeehjjcgmmaa
open Go.RowKit

section
variable {w w' : World} {p n : Nat} {b : Nat → Nat} {x : Nat → Int} {f : Nat → Nat}
theorem Ring.below (h : Ring w p n b x f) (hb : Below w.heap.size w w') : Ring w' p n b x f :=
  ⟨h.head.below hb h.head.lt, fun k hk => (h.node k hk).below hb (h.node k hk).lt, h.inj⟩
theorem Ring.at_ (h : Ring w p n b x f) {B : Nat} (hB : w.heap.size ≤ B) (hb : Below B w w') : Ring w' p n b x f :=
  h.below (hb.mono hB)
end

def crimpsTo (n : Nat) (x : Nat → Int) (f : Nat → Nat) (k : Nat) : List Int := ((List.range k).filter (allowedB n x f)).map Int.ofNat
theorem crimpsTo_yes {n k : Nat} {x : Nat → Int} {f : Nat → Nat} (h : allowedB n x f k = true) : crimpsTo n x f (k + 1) = crimpsTo n x f k ++ [(k : Int)] := by
  simp [crimpsTo, List.range_succ, List.filter_append, h]
theorem crimpsTo_no {n k : Nat} {x : Nat → Int} {f : Nat → Nat} (h : allowedB n x f k = false) : crimpsTo n x f (k + 1) = crimpsTo n x f k := by
  simp [crimpsTo, List.range_succ, List.filter_append, h]
theorem crimpsTo_len (n : Nat) (x : Nat → Int) (f : Nat → Nat) (k : Nat) : (crimpsTo n x f k).length ≤ k := by
  have := List.length_filter_le (allowedB n x f) (List.range k)
  simpa [crimpsTo] using this

set_option maxHeartbeats 1000000 in
theorem crimps_any (w : World) (p n : Nat) (b : Nat → Nat) (x : Nat → Int) (f : Nat → Nat) (h : Ring w p n b x f) (hn0 : 0 < n) (hn : n ≤ 100) (hf : ∀ k, f k < 256) :
    Calls Try.prog 43 #[ptr p] w fun e w' => ∃ v, e = .returned v ∧ Own w' w.heap.size v (crimpsTo n x f n) ∧ Below w.heap.size w w' := by
  have c2 := (h.below ((Below.refl _ _).alloc (Nat.le_refl _) (.cells #[] 3))).first
  go_enter Try.func43, Try.ntmps43
  go_wp2
  go_loopg [3, 4, 5] (n + 1) (fun g s3 s4 s5 wr => ∃ k, k ≤ n ∧ s5 = .int .i64 k ∧ s4 = ptr (b (if k = n then 0 else k)) ∧ n - k < g ∧ Own wr w.heap.size s3 (crimpsTo n x f k) ∧ Below w.heap.size w wr)
  case atStart => exact ⟨0, Nat.zero_le _, rfl, by rw [if_neg (by omega)], by omega, own_empty w (Nat.le_refl _), (Below.refl _ _).alloc (Nat.le_refl _) _⟩
  case round =>
    obtain ⟨k, hk, rfl, rfl, hg, hown, hbel⟩ := hrel
    have hr := h.below hbel
    have d1 := hr.many
    have hsz := hbel.size
    cases gk with
    | zero => omega
    | succ g =>
    by_cases hlt : k < n
    · rw [if_neg (Nat.ne_of_lt hlt)]
      have hlen := crimpsTo_len n x f k
      have d2 := hr.next hlt
      have hcur : b (if k + 1 = n then 0 else k + 1) = b (nxt n k) := rfl
      have HC := Lib.hid hcur; clear hcur
      cases ha : allowedB n x f k with
      | true =>
        have hy := crimpsTo_yes ha
        have HY := Lib.hid hy; clear hy
        have HA := Lib.hid ha; clear ha
        go_wp2_with fail
        refine (allowed_any wr p n b x f k hr hlt hn hf).mono ?_
        rintro e w1 ⟨rfl, m, rfl⟩
        rw [HA.out]
        go_wp2_with (at_builtin; go_loud (refine wpList_push (W := wr.drewN m) rfl _ _ rfl w.heap.size _ _ k (by rfl) (by rfl) hown hsz (by omega) ?_))
        intro v' w2 hown2 hgr hb2
        have hbel2 := (below_drewN hbel m).trans hb2
        have hr2 := h.below hbel2
        have d3 := hr2.next hlt
        clear hown d1 d2 hr hb2 hgr
        go_wp2
        go_roundg g
        case measure => omega
        case rel => exact ⟨k + 1, by omega, by go_num, by rw [HC.out], by omega, by rw [HY.out]; exact hown2, hbel2⟩
      | false =>
        have hy := crimpsTo_no ha
        have HY := Lib.hid hy; clear hy
        have HA := Lib.hid ha; clear ha
        go_wp2_with fail
        refine (allowed_any wr p n b x f k hr hlt hn hf).mono ?_
        rintro e w1 ⟨rfl, m, rfl⟩
        rw [HA.out]
        go_wp2
        go_roundg g
        case measure => omega
        case rel => exact ⟨k + 1, by omega, by go_num, by rw [HC.out], by omega, by rw [HY.out]; exact hown, below_drewN hbel m⟩
    · obtain rfl : k = n := by omega
      go_wp2
      go_ret
      exact ⟨_, rfl, hown, hbel⟩

end Go.Proofs.Ytngpeehjjcgmmaa
