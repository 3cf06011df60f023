/- The draws of laws on vertices. No condition but sizes. -/
import Derived.Test.YtngpeehjjcgmmaaDrawC
namespace Go.Proofs.Ytngpeehjjcgmmaa
open Go.RowKit



set_option maxHeartbeats 1000000 in
theorem spec_DrawVertexFolds (w : World) (A : Option Addr) (cap : Nat) (bs : List UInt8) (h : Codes w w.heap.size A bs) (hl : bs.length ≤ 1048576) (hcap : bs.length ≤ cap) (hcm : cap ≤ maxLen) :
    Calls Try.prog 5 #[.slice A bs.length cap] w fun e w' => ∃ (B : Option Addr) (xs : List Int) (c : Nat) (s : ByteArray), e = .returned (.tuple #[.slice B xs.length c, .string s]) ∧ Ints w' B xs ∧ xs.length ≤ c ∧ c ≤ maxLen ∧ xs.length ≤ 10 ∧ Small xs ∧ s.size ≤ 20 ∧ Below w.heap.size w w' := by
  go_enter Try.func5, Try.ntmps5
  go_wp2_with fail
  refine (spec_l6Open w A cap bs h hl hcap hcm).mono ?_
  rintro e w1 ⟨bs', rfl, R1, hb1⟩
  have hsz := R1.blk.lt
  go_wp2_with fail
  refine (spec_l91Vertex w1 w.heap.size A cap bs' 0 10 R1 (by omega) (by omega) (by omega)).mono ?_
  rintro e w2 ⟨B, xs, c, s, q1, rfl, hA, hc, hcm, hxm, hSm, hs, hq1, R2, G2⟩
  have HSm := Lib.hid hSm
  clear hSm
  go_wp2_with fail
  go_ret2
  exact ⟨B, xs, c, s, rfl, hA.ints, hc, hcm, hxm, HSm.out, hs, grown_fresh hb1 G2 hsz⟩



end Go.Proofs.Ytngpeehjjcgmmaa
