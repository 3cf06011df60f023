/- The draws of laws on patterns. No condition but sizes. -/
import Derived.Test.YtnccpifdajcejaaDrawP
namespace Go.Proofs.Ytnccpifdajcejaa
open Go.RowKit

/-- drawn vertices -/
def DrawnV (w : World) (e : Ending) (w' : World) : Prop :=
  ∃ (B : Option Addr) (vs : List Vx) (c : Nat), e = .returned (.slice B vs.length c) ∧ Verts w' B vs ∧ vs.length ≤ 2 ∧ vs.length ≤ c ∧ c ≤ maxLen ∧ (∀ v ∈ vs, v.1.length ≤ 4 ∧ v.2.length ≤ 4) ∧ Below w.heap.size w w'
theorem below_of_grown {w w1 w2 : World} {r : Nat} (h1 : Below w.heap.size w w1) (h2 : w1.grownBy w2 (some r)) (hr : w.heap.size ≤ r) (hs : w.heap.size ≤ w1.heap.size) : Below w.heap.size w w2 :=
  h1.grown h2 hs (fun g e => by cases e; exact hr)

set_option maxHeartbeats 1000000 in
theorem spec_DrawPatternValid (w : World) (A : Option Addr) (cap : Nat) (bs : List UInt8) (h : Codes w w.heap.size A bs) (hl : bs.length ≤ 1048576) (hcap : bs.length ≤ cap) (hcm : cap ≤ maxLen) :
    Calls Try.prog 14 #[.slice A bs.length cap] w (DrawnV w) := by
  go_enter Try.func14, Try.ntmps14
  go_wp2_with fail
  refine (spec_l6Open w A cap bs h hl hcap hcm).mono ?_
  rintro e w1 ⟨bs', rfl, R1, hb1⟩
  go_wp2_with fail
  refine (spec_l92Pattern w1 w.heap.size A cap bs' 0 R1 (by omega)).mono ?_
  rintro e w2 ⟨B, vs, c, q, rfl, hV, h2, hc, hcm2, hlen, _, R2, G2⟩
  have HL := Lib.hid hlen
  have hv := hV.verts
  have hb := below_of_grown hb1 G2 (Nat.le_refl _) hb1.size
  clear hlen hV
  go_wp2_with fail
  go_ret
  exact ⟨B, vs, c, rfl, hv, h2, hc, hcm2, HL.out, hb⟩

set_option maxHeartbeats 1000000 in
theorem spec_DrawPatternMany (w : World) (A : Option Addr) (cap : Nat) (bs : List UInt8) (h : Codes w w.heap.size A bs) (hl : bs.length ≤ 1048576) (hcap : bs.length ≤ cap) (hcm : cap ≤ maxLen) :
    Calls Try.prog 29 #[.slice A bs.length cap] w (DrawnV w) := by
  go_enter Try.func29, Try.ntmps29
  go_wp2_with fail
  refine (spec_l6Open w A cap bs h hl hcap hcm).mono ?_
  rintro e w1 ⟨bs', rfl, R1, hb1⟩
  go_wp2_with fail
  refine (spec_l92Pattern w1 w.heap.size A cap bs' 0 R1 (by omega)).mono ?_
  rintro e w2 ⟨B, vs, c, q, rfl, hV, h2, hc, hcm2, hlen, _, R2, G2⟩
  have HL := Lib.hid hlen
  have hv := hV.verts
  have hb := below_of_grown hb1 G2 (Nat.le_refl _) hb1.size
  clear hlen hV
  go_wp2_with fail
  go_ret
  exact ⟨B, vs, c, rfl, hv, h2, hc, hcm2, HL.out, hb⟩

set_option maxHeartbeats 1000000 in
theorem spec_DrawPatternFirst (w : World) (A : Option Addr) (cap : Nat) (bs : List UInt8) (h : Codes w w.heap.size A bs) (hl : bs.length ≤ 1048576) (hcap : bs.length ≤ cap) (hcm : cap ≤ maxLen) :
    Calls Try.prog 35 #[.slice A bs.length cap] w (DrawnV w) := by
  go_enter Try.func35, Try.ntmps35
  go_wp2_with fail
  refine (spec_l6Open w A cap bs h hl hcap hcm).mono ?_
  rintro e w1 ⟨bs', rfl, R1, hb1⟩
  go_wp2_with fail
  refine (spec_l92Pattern w1 w.heap.size A cap bs' 0 R1 (by omega)).mono ?_
  rintro e w2 ⟨B, vs, c, q, rfl, hV, h2, hc, hcm2, hlen, _, R2, G2⟩
  have HL := Lib.hid hlen
  have hv := hV.verts
  have hb := below_of_grown hb1 G2 (Nat.le_refl _) hb1.size
  clear hlen hV
  go_wp2_with fail
  go_ret
  exact ⟨B, vs, c, rfl, hv, h2, hc, hcm2, HL.out, hb⟩

set_option maxHeartbeats 1000000 in
theorem spec_DrawPatternInner (w : World) (A : Option Addr) (cap : Nat) (bs : List UInt8) (h : Codes w w.heap.size A bs) (hl : bs.length ≤ 1048576) (hcap : bs.length ≤ cap) (hcm : cap ≤ maxLen) :
    Calls Try.prog 25 #[.slice A bs.length cap] w (DrawnV w) := by
  go_enter Try.func25, Try.ntmps25
  go_wp2_with fail
  refine (spec_l6Open w A cap bs h hl hcap hcm).mono ?_
  rintro e w1 ⟨bs', rfl, R1, hb1⟩
  go_wp2_with fail
  refine (spec_l92Pattern w1 w.heap.size A cap bs' 0 R1 (by omega)).mono ?_
  rintro e w2 ⟨B, vs, c, q, rfl, hV, h2, hc, hcm2, hlen, _, R2, G2⟩
  have HL := Lib.hid hlen
  have hv := hV.verts
  have hb := below_of_grown hb1 G2 (Nat.le_refl _) hb1.size
  clear hlen hV
  go_wp2_with fail
  go_ret
  exact ⟨B, vs, c, rfl, hv, h2, hc, hcm2, HL.out, hb⟩
end Go.Proofs.Ytnccpifdajcejaa
