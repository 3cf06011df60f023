/- The reader of a code: 'l6Open', 'of'. No condition but sizes. -/
import Derived.Test.YtngpeehjjcgmmaaRead
namespace Go.Proofs.Ytngpeehjjcgmmaa
open Go.RowKit

theorem Codes.take {w : World} {r : Nat} {A : Option Addr} {bs : List UInt8} (h : Codes w r A bs) (n : Nat) : Codes w r A (bs.take n) := by
  intro hn
  obtain ⟨b, off, e, hlt, hc⟩ := h (by intro e; rw [e] at hn; simp at hn)
  refine ⟨b, off, e, hlt, fun k c hk => hc k c ?_⟩
  rw [List.getElem?_take] at hk
  split at hk
  · exact hk
  · cases hk

set_option maxHeartbeats 1000000 in
theorem spec_l6Open (w : World) (A : Option Addr) (cap : Nat) (bs : List UInt8) (h : Codes w w.heap.size A bs) (hl : bs.length ≤ 1048576) (hcap : bs.length ≤ cap) (hcm : cap ≤ maxLen) :
    Calls Try.prog 19 #[.slice A bs.length cap] w fun e w' => ∃ bs', e = .returned (ptr w.heap.size) ∧ Rd w' w.heap.size A cap bs' 0 ∧ Below w.heap.size w w' := by
  unfold maxLen at hcm
  have hb : ∀ o, Below w.heap.size w (w.alloc o) := fun o => (Below.refl _ _).alloc (Nat.le_refl _) o
  by_cases g : bs.length ≤ 2000
  · have d1 : decide ((2000 : Int) < (bs.length : Int)) = false := by simp; omega
    go_enter Try.func19, Try.ntmps19
    go_wp2_with fail
    go_ret
    exact ⟨bs, rfl, ⟨Blk.new w _ _, h.below (hb _) (Nat.le_refl _), g⟩, hb _⟩
  · have d1 : decide ((2000 : Int) < (bs.length : Int)) = true := by simp; omega
    obtain ⟨b, off, rfl, _, _⟩ := h (by intro e; rw [e] at g; simp at g)
    have ht : (bs.take 2000).length = 2000 := by simp; omega
    go_enter Try.func19, Try.ntmps19
    go_wp2_with fail
    go_ret
    exact ⟨bs.take 2000, rfl, ⟨by rw [ht]; exact Blk.new w _ _, (h.take 2000).below (hb _) (Nat.le_refl _), by omega⟩, hb _⟩

set_option maxHeartbeats 1000000 in
theorem spec_of (w : World) (r : Nat) (A : Option Addr) (cap : Nat) (bs : List UInt8) (q g c : Nat) (ss : List ByteArray) (h : Rd w r A cap bs q) (hq : q ≤ 1000000) (h0 : 0 < ss.length) (hn : ss.length ≤ 1000000) (hg : g ≠ r) (hgs : g < w.heap.size)
    (hs : ∀ k s, ss[k]? = some s → w.cell? ⟨g, k, none⟩ = some (.string s)) :
    Calls Try.prog 63 #[ptr r, .slice (some ⟨g, 0, none⟩) ss.length c] w fun e w' => ∃ s, s ∈ ss ∧ e = .returned (.string s) ∧ Rd w' r A cap bs (q + 1) ∧ w.grownBy w' (some r) := by
  go_enter Try.func63, Try.ntmps63
  go_wp2_with fail
  refine (spec_pick w r A cap bs q ss.length h hq hn).mono ?_
  rintro e w1 ⟨k, rfl, hk, R1, hgr⟩
  have hlt : k < ss.length := by omega
  have hc := (hgr.cell_far ⟨g, k, none⟩ hgs (fun e => hg (Option.some.inj e))).trans (hs k _ (List.getElem?_eq_getElem hlt))
  have hm := List.getElem_mem hlt
  obtain ⟨s, hs1, hs2⟩ : ∃ s, s = ss[k] ∧ s ∈ ss := ⟨_, rfl, hm⟩
  rw [← hs1] at hc
  clear hs1 hm hs hk
  go_wp2_with fail
  go_ret
  exact ⟨s, hs2, rfl, R1, hgr⟩

end Go.Proofs.Ytngpeehjjcgmmaa
