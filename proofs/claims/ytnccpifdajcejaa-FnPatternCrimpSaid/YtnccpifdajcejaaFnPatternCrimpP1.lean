/- The head of the translation, letter by letter: so that the closed facts on it are cheap. No condition. The reader of a code: 'l6Open', 'of'. No condition but sizes. The drawn texts: 'l91Text', 'l91Any'. No condition but sizes. append of a slice of integers, nil or not, to a row of the call's own; a cut of a slice that reads as a list. No condition. -/
import Derived.Test.YtnccpifdajcejaaRows
import Derived.WalkKit
import Derived.ProofKit
import Derived.Test.YtnccpifdajcejaaFnPatternCrimpP0
import Derived.Deep.RegionLaw
import Derived.Deep.RegionHeld3
namespace Go.Proofs.Ytnccpifdajcejaa

def headNums : List Nat := [104, 97, 114, 110, 101, 115, 115, 32, 57, 100, 101, 51, 55, 53, 101, 49, 50, 102, 49, 55, 97, 99, 51, 98, 53, 100, 56, 48, 101, 53, 52, 57, 99, 53, 48, 54, 48, 53, 55, 99, 55, 48, 50, 101, 100, 99, 97, 50, 98, 98, 50, 102, 51, 50, 57, 97, 101, 56, 51, 48, 49, 50, 53, 57, 97, 101, 99, 50, 49, 54, 53, 99, 32, 99, 117, 116, 32, 97, 116, 32, 108, 111, 111, 112, 46, 101, 120, 97, 109, 112, 108, 101, 47, 102, 108, 97, 116, 102, 111, 108, 100, 105, 110, 103, 47, 108, 97, 119, 115, 46, 70, 110, 80, 97, 116, 116, 101, 114, 110, 32, 108, 111, 111, 112, 46, 101, 120, 97, 109, 112, 108, 101, 47, 102, 108, 97, 116, 102, 111, 108, 100, 105, 110, 103, 47, 108, 97, 119, 115, 46, 70, 110, 80, 97, 116, 116, 101, 114, 110, 74, 111, 105, 110, 87, 105, 116, 104, 111, 117, 116, 32, 108, 111, 111, 112, 46, 101, 120, 97, 109, 112, 108, 101, 47, 102, 108, 97, 116, 102, 111, 108, 100, 105, 110, 103, 47, 108, 97, 119, 115, 46, 70, 110, 80, 97, 116, 116, 101, 114, 110, 73, 110, 110, 101, 114, 32, 108, 111, 111, 112, 46, 101, 120, 97, 109, 112, 108, 101, 47, 102, 108, 97, 116, 102, 111, 108, 100, 105, 110, 103, 47, 108, 97, 119, 115, 46, 70, 110, 80, 97, 116, 116, 101, 114, 110, 84, 117, 114, 110, 32, 108, 111, 111, 112, 46, 101, 120, 97, 109, 112, 108, 101, 47, 102, 108, 97, 116, 102, 111, 108, 100, 105, 110, 103, 47, 108, 97, 119, 115, 46, 70, 110, 80, 97, 116, 116, 101, 114, 110, 87, 105, 116, 104, 111, 117, 116, 32, 108, 111, 111, 112, 46, 101, 120, 97, 109, 112, 108, 101, 47, 102, 108, 97, 116, 102, 111, 108, 100, 105, 110, 103, 47, 108, 97, 119, 115, 46, 70, 110, 80, 97, 116, 116, 101, 114, 110, 70, 105, 114, 115, 116, 32, 108, 111, 111, 112, 46, 101, 120, 97, 109, 112, 108, 101, 47, 102, 108, 97, 116, 102, 111, 108, 100, 105, 110, 103, 47, 108, 97, 119, 115, 46, 70, 110, 80, 97, 116, 116, 101, 114, 110, 74, 111, 105, 110, 32, 108, 111, 111, 112, 46, 101, 120, 97, 109, 112, 108, 101, 47, 102, 108, 97, 116, 102, 111, 108, 100, 105, 110, 103, 47, 108, 97, 119, 115, 46, 70, 110, 80, 97, 116, 116, 101, 114, 110, 77, 97, 110, 121, 32, 108, 111, 111, 112, 46, 101, 120, 97, 109, 112, 108, 101, 47, 102, 108, 97, 116, 102, 111, 108, 100, 105, 110, 103, 47, 108, 97, 119, 115, 46, 70, 110, 80, 97, 116, 116, 101, 114, 110, 67, 114, 105, 109, 112, 32, 108, 111, 111, 112, 46, 101, 120, 97, 109, 112, 108, 101, 47, 102, 108, 97, 116, 102, 111, 108, 100, 105, 110, 103, 47, 108, 97, 119, 115, 46, 70, 110, 80, 97, 116, 116, 101, 114, 110, 70, 111, 108, 100, 115, 32, 108, 111, 111, 112, 46, 101, 120, 97, 109, 112, 108, 101, 47, 102, 108, 97, 116, 102, 111, 108, 100, 105, 110, 103, 47, 108, 97, 119, 115, 46, 70, 110, 80, 97, 116, 116, 101, 114, 110, 67, 104, 97, 105, 110]
def headL : List Char := headNums.map Char.ofNat
theorem head_str : Try.prog.initOrder = String.ofList headL := by kernel_rfl
theorem head_toList : Try.prog.initOrder.toList = headL := by rw [head_str]; exact String.toList_ofList
def headWords : List (List Nat) := [[99, 117, 116], [97, 116], [108, 111, 111, 112, 46, 101, 120, 97, 109, 112, 108, 101, 47, 102, 108, 97, 116, 102, 111, 108, 100, 105, 110, 103, 47, 108, 97, 119, 115, 46, 70, 110, 80, 97, 116, 116, 101, 114, 110], [108, 111, 111, 112, 46, 101, 120, 97, 109, 112, 108, 101, 47, 102, 108, 97, 116, 102, 111, 108, 100, 105, 110, 103, 47, 108, 97, 119, 115, 46, 70, 110, 80, 97, 116, 116, 101, 114, 110, 74, 111, 105, 110, 87, 105, 116, 104, 111, 117, 116], [108, 111, 111, 112, 46, 101, 120, 97, 109, 112, 108, 101, 47, 102, 108, 97, 116, 102, 111, 108, 100, 105, 110, 103, 47, 108, 97, 119, 115, 46, 70, 110, 80, 97, 116, 116, 101, 114, 110, 73, 110, 110, 101, 114], [108, 111, 111, 112, 46, 101, 120, 97, 109, 112, 108, 101, 47, 102, 108, 97, 116, 102, 111, 108, 100, 105, 110, 103, 47, 108, 97, 119, 115, 46, 70, 110, 80, 97, 116, 116, 101, 114, 110, 84, 117, 114, 110], [108, 111, 111, 112, 46, 101, 120, 97, 109, 112, 108, 101, 47, 102, 108, 97, 116, 102, 111, 108, 100, 105, 110, 103, 47, 108, 97, 119, 115, 46, 70, 110, 80, 97, 116, 116, 101, 114, 110, 87, 105, 116, 104, 111, 117, 116], [108, 111, 111, 112, 46, 101, 120, 97, 109, 112, 108, 101, 47, 102, 108, 97, 116, 102, 111, 108, 100, 105, 110, 103, 47, 108, 97, 119, 115, 46, 70, 110, 80, 97, 116, 116, 101, 114, 110, 70, 105, 114, 115, 116], [108, 111, 111, 112, 46, 101, 120, 97, 109, 112, 108, 101, 47, 102, 108, 97, 116, 102, 111, 108, 100, 105, 110, 103, 47, 108, 97, 119, 115, 46, 70, 110, 80, 97, 116, 116, 101, 114, 110, 74, 111, 105, 110], [108, 111, 111, 112, 46, 101, 120, 97, 109, 112, 108, 101, 47, 102, 108, 97, 116, 102, 111, 108, 100, 105, 110, 103, 47, 108, 97, 119, 115, 46, 70, 110, 80, 97, 116, 116, 101, 114, 110, 77, 97, 110, 121], [108, 111, 111, 112, 46, 101, 120, 97, 109, 112, 108, 101, 47, 102, 108, 97, 116, 102, 111, 108, 100, 105, 110, 103, 47, 108, 97, 119, 115, 46, 70, 110, 80, 97, 116, 116, 101, 114, 110, 67, 114, 105, 109, 112], [108, 111, 111, 112, 46, 101, 120, 97, 109, 112, 108, 101, 47, 102, 108, 97, 116, 102, 111, 108, 100, 105, 110, 103, 47, 108, 97, 119, 115, 46, 70, 110, 80, 97, 116, 116, 101, 114, 110, 70, 111, 108, 100, 115], [108, 111, 111, 112, 46, 101, 120, 97, 109, 112, 108, 101, 47, 102, 108, 97, 116, 102, 111, 108, 100, 105, 110, 103, 47, 108, 97, 119, 115, 46, 70, 110, 80, 97, 116, 116, 101, 114, 110, 67, 104, 97, 105, 110]]
theorem head_words : behindMainWord (wordsSigns Try.prog.initOrder.toList) = headWords.map (·.map Char.ofNat) := by
  rw [head_toList]
  kernel_rfl
/-- what 'mayEnter', 'liftsFinal', 'make' and 'headLifts' make of the head's words: found by Lean itself -/
def mayF : { F : Program → List (List Char) → Bool // ∀ P : Program, P.mayEnter = F P (behindMainWord (wordsSigns P.initOrder.toList)) } := by
  constructor
  case property =>
    intro P
    unfold Program.mayEnter
    generalize behindMainWord (wordsSigns P.initOrder.toList) = ws
    exact rfl
def liftsF : { F : Program → List (List Char) → List String // ∀ P : Program, P.headLifts = F P (behindMainWord (wordsSigns P.initOrder.toList)) } := by
  constructor
  case property =>
    intro P
    unfold Program.headLifts
    generalize behindMainWord (wordsSigns P.initOrder.toList) = ws
    exact rfl
def finalF : { F : Program → List (List Char) → List String → Bool // ∀ P : Program, P.liftsFinal = F P (behindMainWord (wordsSigns P.initOrder.toList)) P.headLifts } := by
  constructor
  case property =>
    intro P
    unfold Program.liftsFinal
    generalize P.headLifts = l
    generalize behindMainWord (wordsSigns P.initOrder.toList) = ws
    exact rfl
def makeF : { F : Program → List (List Char) → List String → Option Make // ∀ P : Program, P.make = F P (behindMainWord (wordsSigns P.initOrder.toList)) P.headLifts } := by
  constructor
  case property =>
    intro P
    unfold Program.make
    generalize P.headLifts = l
    generalize behindMainWord (wordsSigns P.initOrder.toList) = ws
    exact rfl
theorem may_at {P : Program} {ws : List (List Char)} (h : behindMainWord (wordsSigns P.initOrder.toList) = ws) : P.mayEnter = mayF.1 P ws := by rw [← h]; exact mayF.2 P
theorem lifts_at {P : Program} {ws : List (List Char)} (h : behindMainWord (wordsSigns P.initOrder.toList) = ws) : P.headLifts = liftsF.1 P ws := by rw [← h]; exact liftsF.2 P
theorem final_at {P : Program} {ws : List (List Char)} {l : List String} (h : behindMainWord (wordsSigns P.initOrder.toList) = ws) (h2 : P.headLifts = l) : P.liftsFinal = finalF.1 P ws l := by rw [← h, ← h2]; exact finalF.2 P
theorem make_at {P : Program} {ws : List (List Char)} {l : List String} (h : behindMainWord (wordsSigns P.initOrder.toList) = ws) (h2 : P.headLifts = l) : P.make = makeF.1 P ws l := by rw [← h, ← h2]; exact makeF.2 P
theorem head_lifts : Try.prog.headLifts = [] := (lifts_at head_words).trans (by kernel_rfl)
theorem head_mayEnter : Try.prog.mayEnter = true := (may_at head_words).trans (by kernel_rfl)
theorem head_liftsFinal : Try.prog.liftsFinal = false := (final_at head_words head_lifts).trans (by kernel_rfl)
theorem head_make : Try.prog.make = some .cut := (make_at head_words head_lifts).trans (by kernel_rfl)

end Go.Proofs.Ytnccpifdajcejaa
namespace Go.Proofs.Ytnccpifdajcejaa
open Go.RowKit

theorem Codes.take {w : World} {r : Nat} {A : Option Addr} {bs : List UInt8} (h : Codes w r A bs) (n : Nat) : Codes w r A (bs.take n) := by
  intro hn
  obtain ⟨b, off, e, hlt, hc⟩ := h (by intro e; rw [e] at hn; simp at hn)
  refine ⟨b, off, e, hlt, fun k c hk => hc k c ?_⟩
  rw [List.getElem?_take] at hk
  split at hk
  · exact hk
  · cases hk

set_option maxHeartbeats 1000000 in
theorem spec_l6Open (w : World) (A : Option Addr) (cap : Nat) (bs : List UInt8) (h : Codes w w.heap.size A bs) (hl : bs.length ≤ 1048576) (hcap : bs.length ≤ cap) (hcm : cap ≤ maxLen) :
    Calls Try.prog 47 #[.slice A bs.length cap] w fun e w' => ∃ bs', e = .returned (ptr w.heap.size) ∧ Rd w' w.heap.size A cap bs' 0 ∧ Below w.heap.size w w' := by
  unfold maxLen at hcm
  have hb : ∀ o, Below w.heap.size w (w.alloc o) := fun o => (Below.refl _ _).alloc (Nat.le_refl _) o
  by_cases g : bs.length ≤ 2000
  · have d1 : decide ((2000 : Int) < (bs.length : Int)) = false := by simp; omega
    go_enter Try.func47, Try.ntmps47
    go_wp2_with fail
    go_ret
    exact ⟨bs, rfl, ⟨Blk.new w _ _, h.below (hb _) (Nat.le_refl _), g⟩, hb _⟩
  · have d1 : decide ((2000 : Int) < (bs.length : Int)) = true := by simp; omega
    obtain ⟨b, off, rfl, _, _⟩ := h (by intro e; rw [e] at g; simp at g)
    have ht : (bs.take 2000).length = 2000 := by simp; omega
    go_enter Try.func47, Try.ntmps47
    go_wp2_with fail
    go_ret
    exact ⟨bs.take 2000, rfl, ⟨by rw [ht]; exact Blk.new w _ _, (h.take 2000).below (hb _) (Nat.le_refl _), by omega⟩, hb _⟩

set_option maxHeartbeats 1000000 in
theorem spec_of (w : World) (r : Nat) (A : Option Addr) (cap : Nat) (bs : List UInt8) (q g c : Nat) (ss : List ByteArray) (h : Rd w r A cap bs q) (hq : q ≤ 1000000) (h0 : 0 < ss.length) (hn : ss.length ≤ 1000000) (hg : g ≠ r) (hgs : g < w.heap.size)
    (hs : ∀ k s, ss[k]? = some s → w.cell? ⟨g, k, none⟩ = some (.string s)) :
    Calls Try.prog 91 #[ptr r, .slice (some ⟨g, 0, none⟩) ss.length c] w fun e w' => ∃ s, s ∈ ss ∧ e = .returned (.string s) ∧ Rd w' r A cap bs (q + 1) ∧ w.grownBy w' (some r) := by
  go_enter Try.func91, Try.ntmps91
  go_wp2_with fail
  refine (spec_pick w r A cap bs q ss.length h hq hn).mono ?_
  rintro e w1 ⟨k, rfl, hk, R1, hgr⟩
  have hlt : k < ss.length := by omega
  have hc := (hgr.cell_far ⟨g, k, none⟩ hgs (fun e => hg (Option.some.inj e))).trans (hs k _ (List.getElem?_eq_getElem hlt))
  have hm := List.getElem_mem hlt
  obtain ⟨s, hs1, hs2⟩ : ∃ s, s = ss[k] ∧ s ∈ ss := ⟨_, rfl, hm⟩
  rw [← hs1] at hc
  clear hs1 hm hs hk
  go_wp2_with fail
  go_ret
  exact ⟨s, hs2, rfl, R1, hgr⟩

end Go.Proofs.Ytnccpifdajcejaa
namespace Go.Proofs.Ytnccpifdajcejaa
open Go.RowKit

theorem Rd.far {w : World} {r : Nat} {A : Option Addr} {cap : Nat} {bs : List UInt8} {q : Nat} (h : Rd w r A cap bs q) (o : Obj) : Rd (w.alloc o) r A cap bs q :=
  h.below ((Below.refl w.heap.size w).alloc (Nat.le_refl _) o) h.blk.lt
theorem grown_alloc (w : World) (o : Obj) (row : Option Nat) : w.grownBy (w.alloc o) row :=
  ⟨rfl, rfl, rfl, by simp, fun k hk _ => Below.heap_alloc w o k hk⟩

set_option maxHeartbeats 1000000 in
theorem spec_l91Text (w : World) (r : Nat) (A : Option Addr) (cap : Nat) (bs : List UInt8) (q n : Nat) (h : Rd w r A cap bs q) (hq : q ≤ 900000) (hn : n ≤ 1000) :
    Calls Try.prog 82 #[ptr r, .int .i64 n] w fun e w' => ∃ s : ByteArray, e = .returned (.string s) ∧ s.size = n ∧ Rd w' r A cap bs (q + n) ∧ w.grownBy w' (some r) := by
  go_enter Try.func82, Try.ntmps82
  go_wp2_with fail
  go_loopg [5, 6] (n + 1) (fun g s5 s6 wr => ∃ (i : Nat) (t : ByteArray), i ≤ n ∧ s6 = .int .i64 i ∧ s5 = .string t ∧ t.size ≤ i ∧ Hid (t.size = i) ∧ n - i < g ∧ Rd wr r A cap bs (q + i) ∧ w.grownBy wr (some r))
  case atStart => exact ⟨0, _, Nat.zero_le _, rfl, rfl, Nat.le_refl _, rfl, by omega, h, World.grownBy.refl w _⟩
  case round =>
    obtain ⟨i, t, hi, rfl, rfl, hts, HT, hg, R, hgr⟩ := hrel
    cases gk with
    | zero => omega
    | succ g =>
    by_cases hlt : i < n
    · have hrl := R.blk.lt
      have R2 := R.far (.cells #[.string ⟨#[77]⟩, .string ⟨#[86]⟩] 9)
      have hgr2 := hgr.trans (grown_alloc wr (.cells #[.string ⟨#[77]⟩, .string ⟨#[86]⟩] 9) (some r))
      have hcell : ∀ k s, [ByteArray.mk #[77], ByteArray.mk #[86]][k]? = some s → (wr.alloc (.cells #[.string ⟨#[77]⟩, .string ⟨#[86]⟩] 9)).cell? ⟨wr.heap.size, k, none⟩ = some (.string s) := by
        intro k s hk
        rw [(Blk.new wr 9 #[.string ⟨#[77]⟩, .string ⟨#[86]⟩]).cell k]
        match k, hk with
        | 0, hk => cases hk; rfl
        | 1, hk => cases hk; rfl
      clear R hgr
      go_wp2_with fail
      refine (spec_of _ r A cap bs (q + i) wr.heap.size 2 [ByteArray.mk #[77], ByteArray.mk #[86]] R2 (by omega) (by decide) (by decide) (by omega) (by simp) hcell).mono ?_
      rintro e w1 ⟨s, hs, rfl, R3, hgr3⟩
      have hgr4 := hgr2.trans hgr3
      have hs1 : s.size = 1 := by
        simp at hs
        rcases hs with rfl | rfl <;> rfl
      have h63 : t.size + s.size ≤ 9223372036854775807 := by omega
      have b12 : ∀ W, (Op.stringOp .add t s).run Try.prog W = .ok (.string (t ++ s)) W := fun W => run_string_add_sum W _ _ h63
      have HS := Lib.hid hs1
      clear hs hcell hs1 h63 hgr2 hgr3
      go_wp2_with fail
      go_roundg g
      case measure => omega
      case rel => exact ⟨i + 1, t ++ s, by omega, by go_num, rfl, by rw [ByteArray.size_append, HS.out]; omega, by show _ = _; rw [ByteArray.size_append, HS.out, HT.out], by omega, R3, hgr4⟩
    · obtain rfl : i = n := by omega
      go_wp2_with fail
      go_ret
      exact ⟨t, rfl, HT.out, R, hgr⟩

set_option maxHeartbeats 1000000 in
theorem spec_l91Any (w : World) (r : Nat) (A : Option Addr) (cap : Nat) (bs : List UInt8) (q : Nat) (h : Rd w r A cap bs q) (hq : q ≤ 800000) :
    Calls Try.prog 81 #[ptr r] w fun e w' => ∃ (s : ByteArray) (q' : Nat), e = .returned (.string s) ∧ s.size ≤ 8 ∧ q' ≤ q + 10 ∧ Rd w' r A cap bs q' ∧ w.grownBy w' (some r) := by
  go_enter Try.func81, Try.ntmps81
  go_wp2_with fail
  refine (spec_pick w r A cap bs q 8 h (by omega) (by omega)).mono ?_
  rintro e w1 ⟨n, rfl, hn, R1, g1⟩
  go_wp2_with fail
  refine (spec_l91Text w1 r A cap bs (q + 1) n R1 (by omega) (by omega)).mono ?_
  rintro e w2 ⟨t, rfl, ht, R2, g2⟩
  have G2 := g1.trans g2
  have HT := Lib.hid ht
  have hts : t.size ≤ 7 := by omega
  clear ht R1 g1 g2
  go_wp2_with fail
  refine (spec_pick w2 r A cap bs (q + 1 + n) 4 R2 (by omega) (by omega)).mono ?_
  rintro e w3 ⟨m, rfl, hm, R3, g3⟩
  have G3 := G2.trans g3
  clear G2 g3 R2 hm
  by_cases m0 : m = 0
  · subst m0
    have hrl := R3.blk.lt
    have R4 := R3.far (.cells #[.string ⟨#[120]⟩, .string ⟨#[109]⟩, .string ⟨#[32]⟩, .string ⟨#[86]⟩] 9)
    have G4 := G3.trans (grown_alloc w3 (.cells #[.string ⟨#[120]⟩, .string ⟨#[109]⟩, .string ⟨#[32]⟩, .string ⟨#[86]⟩] 9) (some r))
    have hcell : ∀ k s, [ByteArray.mk #[120], ByteArray.mk #[109], ByteArray.mk #[32], ByteArray.mk #[86]][k]? = some s → (w3.alloc (.cells #[.string ⟨#[120]⟩, .string ⟨#[109]⟩, .string ⟨#[32]⟩, .string ⟨#[86]⟩] 9)).cell? ⟨w3.heap.size, k, none⟩ = some (.string s) := by
      intro k s hk
      rw [(Blk.new w3 9 #[.string ⟨#[120]⟩, .string ⟨#[109]⟩, .string ⟨#[32]⟩, .string ⟨#[86]⟩]).cell k]
      match k, hk with
      | 0, hk => cases hk; rfl
      | 1, hk => cases hk; rfl
      | 2, hk => cases hk; rfl
      | 3, hk => cases hk; rfl
    clear R3 G3
    go_wp2_with fail
    refine (spec_of _ r A cap bs (q + 1 + n + 1) w3.heap.size 4 [ByteArray.mk #[120], ByteArray.mk #[109], ByteArray.mk #[32], ByteArray.mk #[86]] R4 (by omega) (by decide) (by decide) (by omega) (by simp) hcell).mono ?_
    rintro e w5 ⟨s, hs, rfl, R5, g5⟩
    have G5 := G4.trans g5
    have hs1 : s.size = 1 := by
      simp at hs
      rcases hs with rfl | rfl | rfl | rfl <;> rfl
    have h63 : t.size + s.size ≤ 9223372036854775807 := by omega
    have b12 : ∀ W, (Op.stringOp .add t s).run Try.prog W = .ok (.string (t ++ s)) W := fun W => run_string_add_sum W _ _ h63
    have HS := Lib.hid hs1
    clear hs hcell hs1 h63 G4 g5
    go_wp2_with fail
    go_ret
    exact ⟨t ++ s, _, rfl, by rw [ByteArray.size_append, HS.out]; omega, by omega, R5, G5⟩
  · have d1 : ((m : Int) == 0) = false := by rw [beq_eq_false_iff_ne]; omega
    go_wp2_with fail
    go_ret
    exact ⟨t, _, rfl, by omega, by omega, R3, G3⟩

end Go.Proofs.Ytnccpifdajcejaa
namespace Go.Proofs.Ytnccpifdajcejaa
open Go.RowKit

theorem run_app_nil {P : Program} (w : World) (B : Nat) (t ty e : TypeId) (i : TypeInfo) (size : Nat) (ht : P.underlying t = some (.slice e)) (hi : P.info? e = some i)
    (v : Value) (n : Nat) (xs : List Value) (hown : w.ownsRow B e size v n xs) (c : Nat) : (Builtin.append_ #[t, t] ty #[v, .slice none 0 c]).run P w = .ok v w := by
  rcases hown.2 with ⟨rfl, rfl⟩ | ⟨g, cap, cur, rfl, _, _, hnc, _⟩
  · simp [Builtin.append_, run_underlying ht, sizeOf, typeInfo, hi, Builtin.lenOf, Builtin.firstCells]
  · simp [Builtin.append_, run_underlying ht, sizeOf, typeInfo, hi, Builtin.lenOf, Builtin.firstCells, hnc, storeCells]

theorem run_app (W : World) (B : Nat) (ty : TypeId) (v : Value) (xs ys : List Int) (A : Option Addr) (c : Nat) (hown : Own W B v xs) (hr : Ints W A ys) (hB : B ≤ W.heap.size)
    (hn : xs.length + ys.length ≤ 1000000000000) :
    ∃ v' w', (Builtin.append_ #[27, 27] ty #[v, .slice A ys.length c]).run Try.prog W = .ok v' w' ∧ Own w' B v' (xs ++ ys) ∧ W.grownBy w' v.ownBlock ∧ Below B W w' := by
  obtain ⟨i0, hi, hz0, hz1, hz2⟩ := info_parts Try.infoInt
  cases A with
  | none =>
    have hy : ys = [] := by
      apply Classical.byContradiction
      intro hne
      obtain ⟨b, off, e, _⟩ := hr hne
      cases e
    subst hy
    exact ⟨v, W, run_app_nil W B _ ty _ i0 1 Try.underlying27 hi v _ _ hown c, by simpa using hown, World.grownBy.refl W _, Below.refl _ _⟩
  | some ad =>
    obtain ⟨v', w', hrun, h2, h3, _⟩ := run_append_own (P := Try.prog) W B 27 ty 3 i0 (.int .i64 0) 1 8 Try.underlying27 hi hz0 hz1 hz2 rfl (by decide) v _ _ hown ad ys.length c (ys.map (Value.int .i64))
      (by simp) (by
        intro j u hu
        have hne : ys ≠ [] := by intro e; subst e; simp at hu
        obtain ⟨b, off, e, _, hc⟩ := hr hne
        have e2 : ad = ⟨b, off, none⟩ := Option.some.inj e
        rw [List.getElem?_map] at hu
        cases hy : ys[j]? with
        | none => simp only [hy, Option.map_none, reduceCtorEq] at hu
        | some y =>
          simp only [hy, Option.map_some, Option.some.injEq] at hu
          rw [← hu, e2, Addr.add_lit]
          exact hc j y hy) (ints_oneCell _ _) (by unfold maxLen; omega) (by omega) hB
    exact ⟨v', w', hrun, by simpa [Own] using h2, h3, (Below.refl _ _).grown h3 hB fun k hk => (hown.lt k hk).1⟩

theorem wp_app {o : Oper} {a : Act} {W : World} {K : Act → World → Prop} {Q : Exit → Act → World → Prop} (s x : Operand)
    (ho : o.op = .call { callee := .builtin .append, args := #[s, x], argTypes := #[27, 27] })
    (B : Nat) (v : Value) (xs ys : List Int) (A : Option Addr) (c : Nat) (hs : a.eval s = v) (m : Nat) (hm : ys.length = m) (hx : a.eval x = .slice A m c) (hown : Own W B v xs) (hr : Ints W A ys) (hB : B ≤ W.heap.size)
    (hn : xs.length + ys.length ≤ 1000000000000)
    (h : ∀ v' w', Own w' B v' (xs ++ ys) → W.grownBy w' v.ownBlock → Below B W w' → K (a.put o.dst v') w') : o.wp Try.prog a W K Q := by
  subst hm
  obtain ⟨v', w', hrun, h2, h3, h4⟩ := run_app W B o.type v xs ys A c hown hr hB hn
  unfold Oper.wp execOp
  simp only [ho, resolve, invoke, builtin, Sem.run_bind, Sem.run_pure, Result.andThen_ok, List.map_toArray, List.map_cons, List.map_nil, hs, hx, hrun]
  exact h v' w' h2 h3 h4

theorem wpList_app {ops : Array Oper} {rest : List Oper} {o : Oper} {a : Act} {W : World} {Q : Exit → Act → World → Prop} (hgd : o.guard = none) (s x : Operand)
    (ho : o.op = .call { callee := .builtin .append, args := #[s, x], argTypes := #[27, 27] })
    (B : Nat) (v : Value) (xs ys : List Int) (A : Option Addr) (c : Nat) (hs : a.eval s = v) (m : Nat) (hm : ys.length = m) (hx : a.eval x = .slice A m c) (hown : Own W B v xs) (hr : Ints W A ys) (hB : B ≤ W.heap.size)
    (hn : xs.length + ys.length ≤ 1000000000000)
    (h : ∀ v' w', Own w' B v' (xs ++ ys) → W.grownBy w' v.ownBlock → Below B W w' → wpList Try.prog ops Q rest (a.put o.dst v') w') : wpList Try.prog ops Q (o :: rest) a W :=
  wpList_plain hgd fun _ hK => wp_app s x ho B v xs ys A c hs m hm hx hown hr hB hn fun v' w' h2 h3 h4 => hK _ _ (h v' w' h2 h3 h4)

theorem step_app {ops : Array Oper} {o : Oper} {a : Act} {W : World} {K : Act → World → Prop} {Q : Exit → Act → World → Prop} {E : Prop} (hgd : o.guard = none) (s x : Operand)
    (ho : o.op = .call { callee := .builtin .append, args := #[s, x], argTypes := #[27, 27] })
    (B : Nat) (v : Value) (xs ys : List Int) (A : Option Addr) (c : Nat) (hs : a.eval s = v) (m : Nat) (hm : ys.length = m) (hx : a.eval x = .slice A m c) (hown : Own W B v xs) (hr : Ints W A ys) (hB : B ≤ W.heap.size)
    (hn : xs.length + ys.length ≤ 1000000000000)
    (h : ∀ v' w', Own w' B v' (xs ++ ys) → W.grownBy w' v.ownBlock → Below B W w' → K (a.put o.dst v') w') :
    if Region.wanted o (yielded ops a.tmps) = true then Oper.wp Try.prog o a W K Q else E := by
  have hw : Region.wanted o (yielded ops a.tmps) = true := by simp [Region.wanted, hgd]
  rw [if_pos hw]
  exact wp_app s x ho B v xs ys A c hs m hm hx hown hr hB hn h

theorem own_one (w : World) {B : Nat} (z : Int) (hB : B ≤ w.heap.size) : Own (w.alloc (.cells #[.int .i64 z] 3)) B (.slice (some ⟨w.heap.size, 0, none⟩) 1 1) [z] :=
  World.ownsRow_lit w #[.int .i64 z] 1 hB (by unfold maxLen; omega) rfl

/-- a cut of a slice that reads as a list, its address written out -/
theorem Ints.cut {w : World} {b off : Nat} {xs : List Int} (h : Ints w (some ⟨b, off, none⟩) xs) (lo m : Nat) : Ints w (some ⟨b, off + lo, none⟩) ((xs.drop lo).take m) := by
  intro hn
  obtain ⟨b', off', e, hb, hc⟩ := h (by intro e; subst e; simp at hn)
  injection e with e
  injection e with e1 e2
  subst e1 e2
  refine ⟨b, off + lo, rfl, hb, fun k x hx => ?_⟩
  rw [List.getElem?_take] at hx
  split at hx
  · rw [List.getElem?_drop] at hx
    rw [Nat.add_assoc]
    exact hc _ _ hx
  · cases hx

end Go.Proofs.Ytnccpifdajcejaa
