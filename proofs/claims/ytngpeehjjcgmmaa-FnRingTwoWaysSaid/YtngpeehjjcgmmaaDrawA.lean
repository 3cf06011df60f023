/- The drawn texts: 'l91Text', 'l91Any'. No condition but sizes. -/
import Derived.Test.YtngpeehjjcgmmaaReadB
namespace Go.Proofs.Ytngpeehjjcgmmaa
open Go.RowKit

theorem Rd.far {w : World} {r : Nat} {A : Option Addr} {cap : Nat} {bs : List UInt8} {q : Nat} (h : Rd w r A cap bs q) (o : Obj) : Rd (w.alloc o) r A cap bs q :=
  h.below ((Below.refl w.heap.size w).alloc (Nat.le_refl _) o) h.blk.lt
theorem grown_alloc (w : World) (o : Obj) (row : Option Nat) : w.grownBy (w.alloc o) row :=
  ⟨rfl, rfl, rfl, by simp, fun k hk _ => Below.heap_alloc w o k hk⟩

set_option maxHeartbeats 1000000 in
theorem spec_l91Text (w : World) (r : Nat) (A : Option Addr) (cap : Nat) (bs : List UInt8) (q n : Nat) (h : Rd w r A cap bs q) (hq : q ≤ 900000) (hn : n ≤ 1000) :
    Calls Try.prog 42 #[ptr r, .int .i64 n] w fun e w' => ∃ s : ByteArray, e = .returned (.string s) ∧ s.size = n ∧ Rd w' r A cap bs (q + n) ∧ w.grownBy w' (some r) := by
  go_enter Try.func42, Try.ntmps42
  go_wp2_with fail
  go_loopg [5, 6] (n + 1) (fun g s5 s6 wr => ∃ (i : Nat) (t : ByteArray), i ≤ n ∧ s6 = .int .i64 i ∧ s5 = .string t ∧ t.size ≤ i ∧ Hid (t.size = i) ∧ n - i < g ∧ Rd wr r A cap bs (q + i) ∧ w.grownBy wr (some r))
  case atStart => exact ⟨0, _, Nat.zero_le _, rfl, rfl, Nat.le_refl _, rfl, by omega, h, World.grownBy.refl w _⟩
  case round =>
    obtain ⟨i, t, hi, rfl, rfl, hts, HT, hg, R, hgr⟩ := hrel
    cases gk with
    | zero => omega
    | succ g =>
    by_cases hlt : i < n
    · have hrl := R.blk.lt
      have R2 := R.far (.cells #[.string ⟨#[77]⟩, .string ⟨#[86]⟩] 9)
      have hgr2 := hgr.trans (grown_alloc wr (.cells #[.string ⟨#[77]⟩, .string ⟨#[86]⟩] 9) (some r))
      have hcell : ∀ k s, [ByteArray.mk #[77], ByteArray.mk #[86]][k]? = some s → (wr.alloc (.cells #[.string ⟨#[77]⟩, .string ⟨#[86]⟩] 9)).cell? ⟨wr.heap.size, k, none⟩ = some (.string s) := by
        intro k s hk
        rw [(Blk.new wr 9 #[.string ⟨#[77]⟩, .string ⟨#[86]⟩]).cell k]
        match k, hk with
        | 0, hk => cases hk; rfl
        | 1, hk => cases hk; rfl
      clear R hgr
      go_wp2_with fail
      refine (spec_of _ r A cap bs (q + i) wr.heap.size 2 [ByteArray.mk #[77], ByteArray.mk #[86]] R2 (by omega) (by decide) (by decide) (by omega) (by simp) hcell).mono ?_
      rintro e w1 ⟨s, hs, rfl, R3, hgr3⟩
      have hgr4 := hgr2.trans hgr3
      have hs1 : s.size = 1 := by
        simp at hs
        rcases hs with rfl | rfl <;> rfl
      have h63 : t.size + s.size ≤ 9223372036854775807 := by omega
      have b12 : ∀ W, (Op.stringOp .add t s).run Try.prog W = .ok (.string (t ++ s)) W := fun W => run_string_add_sum W _ _ h63
      have HS := Lib.hid hs1
      clear hs hcell hs1 h63 hgr2 hgr3
      go_wp2_with fail
      go_roundg g
      case measure => omega
      case rel => exact ⟨i + 1, t ++ s, by omega, by go_num, rfl, by rw [ByteArray.size_append, HS.out]; omega, by show _ = _; rw [ByteArray.size_append, HS.out, HT.out], by omega, R3, hgr4⟩
    · obtain rfl : i = n := by omega
      go_wp2_with fail
      go_ret
      exact ⟨t, rfl, HT.out, R, hgr⟩

set_option maxHeartbeats 1000000 in
theorem spec_l91Any (w : World) (r : Nat) (A : Option Addr) (cap : Nat) (bs : List UInt8) (q : Nat) (h : Rd w r A cap bs q) (hq : q ≤ 800000) :
    Calls Try.prog 41 #[ptr r] w fun e w' => ∃ (s : ByteArray) (q' : Nat), e = .returned (.string s) ∧ s.size ≤ 8 ∧ q' ≤ q + 10 ∧ Rd w' r A cap bs q' ∧ w.grownBy w' (some r) := by
  go_enter Try.func41, Try.ntmps41
  go_wp2_with fail
  refine (spec_pick w r A cap bs q 8 h (by omega) (by omega)).mono ?_
  rintro e w1 ⟨n, rfl, hn, R1, g1⟩
  go_wp2_with fail
  refine (spec_l91Text w1 r A cap bs (q + 1) n R1 (by omega) (by omega)).mono ?_
  rintro e w2 ⟨t, rfl, ht, R2, g2⟩
  have G2 := g1.trans g2
  have HT := Lib.hid ht
  have hts : t.size ≤ 7 := by omega
  clear ht R1 g1 g2
  go_wp2_with fail
  refine (spec_pick w2 r A cap bs (q + 1 + n) 4 R2 (by omega) (by omega)).mono ?_
  rintro e w3 ⟨m, rfl, hm, R3, g3⟩
  have G3 := G2.trans g3
  clear G2 g3 R2 hm
  by_cases m0 : m = 0
  · subst m0
    have hrl := R3.blk.lt
    have R4 := R3.far (.cells #[.string ⟨#[120]⟩, .string ⟨#[109]⟩, .string ⟨#[32]⟩, .string ⟨#[86]⟩] 9)
    have G4 := G3.trans (grown_alloc w3 (.cells #[.string ⟨#[120]⟩, .string ⟨#[109]⟩, .string ⟨#[32]⟩, .string ⟨#[86]⟩] 9) (some r))
    have hcell : ∀ k s, [ByteArray.mk #[120], ByteArray.mk #[109], ByteArray.mk #[32], ByteArray.mk #[86]][k]? = some s → (w3.alloc (.cells #[.string ⟨#[120]⟩, .string ⟨#[109]⟩, .string ⟨#[32]⟩, .string ⟨#[86]⟩] 9)).cell? ⟨w3.heap.size, k, none⟩ = some (.string s) := by
      intro k s hk
      rw [(Blk.new w3 9 #[.string ⟨#[120]⟩, .string ⟨#[109]⟩, .string ⟨#[32]⟩, .string ⟨#[86]⟩]).cell k]
      match k, hk with
      | 0, hk => cases hk; rfl
      | 1, hk => cases hk; rfl
      | 2, hk => cases hk; rfl
      | 3, hk => cases hk; rfl
    clear R3 G3
    go_wp2_with fail
    refine (spec_of _ r A cap bs (q + 1 + n + 1) w3.heap.size 4 [ByteArray.mk #[120], ByteArray.mk #[109], ByteArray.mk #[32], ByteArray.mk #[86]] R4 (by omega) (by decide) (by decide) (by omega) (by simp) hcell).mono ?_
    rintro e w5 ⟨s, hs, rfl, R5, g5⟩
    have G5 := G4.trans g5
    have hs1 : s.size = 1 := by
      simp at hs
      rcases hs with rfl | rfl | rfl | rfl <;> rfl
    have h63 : t.size + s.size ≤ 9223372036854775807 := by omega
    have b12 : ∀ W, (Op.stringOp .add t s).run Try.prog W = .ok (.string (t ++ s)) W := fun W => run_string_add_sum W _ _ h63
    have HS := Lib.hid hs1
    clear hs hcell hs1 h63 G4 g5
    go_wp2_with fail
    go_ret
    exact ⟨t ++ s, _, rfl, by rw [ByteArray.size_append, HS.out]; omega, by omega, R5, G5⟩
  · have d1 : ((m : Int) == 0) = false := by rw [beq_eq_false_iff_ne]; omega
    go_wp2_with fail
    go_ret
    exact ⟨t, _, rfl, by omega, by omega, R3, G3⟩

end Go.Proofs.Ytngpeehjjcgmmaa
