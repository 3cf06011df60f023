/- A slice of vertices (angles, creases) as it lies in memory; the laws' own helpers that only read it. No condition but sizes. -/
import Derived.Test.YtmadagkdgpohiaaLawA
namespace Go.Proofs.Ytmadagkdgpohiaa
open Go.RowKit

theorem Try.infoVx : (Try.prog.info? 50).map (fun i => (i.zero, i.size, i.bytes)) = some (some (.agg #[.slice none 0 0, .slice none 0 0]), 2, 48) := by kernel_rfl
/-- a vertex: angles, creases -/
abbrev Vx := List Int × List Int
/-- a slice of integers as a value -/
def IntsV (w : World) (V : Value) (xs : List Int) : Prop := ∃ A c, V = .slice A xs.length c ∧ Ints w A xs ∧ xs.length ≤ c ∧ c ≤ maxLen
theorem IntsV.below {w w' : World} {V : Value} {xs : List Int} (h : IntsV w V xs) (hb : Below w.heap.size w w') : IntsV w' V xs := by
  obtain ⟨A, c, e, hI, h1, h2⟩ := h
  exact ⟨A, c, e, hI.below hb, h1, h2⟩
theorem IntsV.of_own {w : World} {B : Nat} {v : Value} {xs : List Int} (h : Own w B v xs) : IntsV w v xs := by
  obtain ⟨A, c, e, hI, h1, h2⟩ := h.form
  exact ⟨A, c, e, hI, h1, h2⟩
/-- the vertices vs lie from A on, two cells each -/
def Verts (w : World) (A : Option Addr) (vs : List Vx) : Prop :=
  vs ≠ [] → ∃ b off, A = some ⟨b, off, none⟩ ∧ b < w.heap.size ∧ ∀ k v, vs[k]? = some v → ∃ U V, w.cell? ⟨b, off + k * 2, none⟩ = some U ∧ w.cell? ⟨b, off + k * 2 + 1, none⟩ = some V ∧ IntsV w U v.1 ∧ IntsV w V v.2
theorem Verts.below {w w' : World} {A : Option Addr} {vs : List Vx} (h : Verts w A vs) (hb : Below w.heap.size w w') : Verts w' A vs := by
  intro hn
  obtain ⟨b, off, e, hlt, hc⟩ := h hn
  refine ⟨b, off, e, Nat.lt_of_lt_of_le hlt hb.size, fun k v hk => ?_⟩
  obtain ⟨U, V, h1, h2, h3, h4⟩ := hc k v hk
  exact ⟨U, V, (hb.cell (p := ⟨b, off + k * 2, none⟩) hlt).trans h1, (hb.cell (p := ⟨b, off + k * 2 + 1, none⟩) hlt).trans h2, h3.below hb, h4.below hb⟩
/-- the vertex k, its fields written out -/
theorem Verts.at_ {w : World} {A : Option Addr} {vs : List Vx} {k : Nat} (h : Verts w A vs) (hk : k < vs.length) :
    ∃ b off A1 c1 A2 c2, A = some ⟨b, off, none⟩ ∧ b < w.heap.size ∧ w.cell? ⟨b, off + k * 2, none⟩ = some (.slice A1 vs[k].1.length c1) ∧ w.cell? ⟨b, off + k * 2 + 1, none⟩ = some (.slice A2 vs[k].2.length c2) ∧
      Ints w A1 vs[k].1 ∧ vs[k].1.length ≤ c1 ∧ c1 ≤ maxLen ∧ Ints w A2 vs[k].2 ∧ vs[k].2.length ≤ c2 ∧ c2 ≤ maxLen := by
  obtain ⟨b, off, e, hb, hc⟩ := h (by intro e; subst e; simp at hk)
  obtain ⟨U, V, h1, h2, ⟨A1, c1, rfl, i1, l1, m1⟩, ⟨A2, c2, rfl, i2, l2, m2⟩⟩ := hc k vs[k] (List.getElem?_eq_getElem hk)
  exact ⟨b, off, A1, c1, A2, c2, e, hb, h1, h2, i1, l1, m1, i2, l2, m2⟩

/-- what is left of a purse behind lists -/
def szB (xs : List Int) (left : Int) : Int := if left - xs.length < 0 then -1 else left - xs.length
def szV (v : Vx) (left : Int) : Int := if szB v.1 left < 0 then -1 else szB v.2 (szB v.1 left)
def szGo : List Vx → Int → Int
  | [], left => left
  | v :: r, left => if szV v left < 0 then -1 else szGo r (szV v left)
def szL (vs : List Vx) (left : Int) : Int := if left - vs.length < 0 then -1 else szGo vs (left - vs.length)

theorem laws_szIntS (A : Option Addr) (cap : Nat) (xs : List Int) (left : Int) (w : World) (hl : xs.length ≤ maxLen) (h0 : 0 ≤ left) (h1 : left ≤ 1048576) :
    Calls Try.prog 61 #[.slice A xs.length cap, .int .i64 left] w fun e w' => e = .returned (.int .i64 (szB xs left)) ∧ w = w' := by
  unfold maxLen at hl
  by_cases g : left - xs.length < 0
  · have d : decide (left - (xs.length : Int) < 0) = true := by simp; omega
    have d2 : left < (xs.length : Int) := by omega
    go_enter Try.func61, Try.ntmps61
    go_wp2_with fail
    go_ret
    exact ⟨ret_int (by unfold szB; rw [if_pos (by omega)]), rfl⟩
  · have d : decide (left - (xs.length : Int) < 0) = false := by simp; omega
    have d2 : ¬ left < (xs.length : Int) := by omega
    go_enter Try.func61, Try.ntmps61
    go_wp2_with fail
    go_ret
    exact ⟨ret_int (by unfold szB; rw [if_neg (by omega)]), rfl⟩
theorem szB_bd (xs : List Int) (left : Int) (h : left ≤ 1048576) : -1 ≤ szB xs left ∧ szB xs left ≤ 1048576 := by
  unfold szB; split <;> omega
set_option maxHeartbeats 1000000 in
theorem laws_szVertex (A1 A2 : Option Addr) (c1 c2 : Nat) (xs ys : List Int) (left : Int) (w : World) (hl1 : xs.length ≤ maxLen) (hl2 : ys.length ≤ maxLen) (h0 : 0 ≤ left) (h1 : left ≤ 1048576) :
    Calls Try.prog 38 #[.agg #[.slice A1 xs.length c1, .slice A2 ys.length c2], .int .i64 left] w fun e w' => e = .returned (.int .i64 (szV (xs, ys) left)) ∧ Below w.heap.size w w' := by
  obtain ⟨m, hm⟩ : ∃ m, m = szB xs left := ⟨_, rfl⟩
  have hb := szB_bd xs left h1
  rw [← hm] at hb
  have HM := Lib.hid hm
  clear hm
  go_enter Try.func38, Try.ntmps38
  go_wp2_with fail
  refine (laws_szIntS A1 c1 xs left _ hl1 h0 h1).mono ?_
  rintro e w' ⟨rfl, rfl⟩
  rw [← HM.out]
  by_cases g : m < 0
  · have d : decide (m < 0) = true := by simp; omega
    go_wp2_with fail
    go_ret
    exact ⟨ret_int (by unfold szV; rw [← HM.out, if_pos g]), (Below.refl _ _).alloc (Nat.le_refl _) _⟩
  · have d : decide (m < 0) = false := by simp; omega
    obtain ⟨q, hq⟩ : ∃ q, q = szB ys m := ⟨_, rfl⟩
    have HQ := Lib.hid hq
    clear hq
    go_wp2_with fail
    refine (laws_szIntS A2 c2 ys m _ hl2 (by omega) hb.2).mono ?_
    rintro e w' ⟨rfl, rfl⟩
    rw [← HQ.out]
    have hfin : szV (xs, ys) left = q := by unfold szV; rw [← HM.out, if_neg (by omega), ← HQ.out]
    have hneg : q < 0 → q = -1 := by
      intro h; rw [HQ.out] at h ⊢; unfold szB at h ⊢; split at h
      · next h2 => rw [if_pos h2]
      · omega
    have HF := Lib.hid hfin
    have HNeg := Lib.hid hneg
    clear hfin hneg
    by_cases g2 : q < 0
    · have d3 : decide (q < 0) = true := by simp; omega
      go_wp2_with fail
      go_ret
      exact ⟨ret_int (by rw [HF.out, HNeg.out g2]), (Below.refl _ _).alloc (Nat.le_refl _) _⟩
    · have d3 : decide (q < 0) = false := by simp; omega
      go_wp2_with fail
      go_ret
      exact ⟨ret_int (by rw [HF.out]), (Below.refl _ _).alloc (Nat.le_refl _) _⟩
theorem szV_bd (v : Vx) (left : Int) (h : left ≤ 1048576) : -1 ≤ szV v left ∧ szV v left ≤ 1048576 := by
  unfold szV
  have h1 := szB_bd v.1 left h
  have h2 := szB_bd v.2 (szB v.1 left) h1.2
  split <;> omega
set_option maxHeartbeats 1000000 in
theorem laws_szVertexS (A : Option Addr) (cap : Nat) (vs : List Vx) (left : Int) (w : World) (h : Verts w A vs) (hl : vs.length ≤ maxLen) (h0 : 0 ≤ left) (h1 : left ≤ 1048576) :
    Calls Try.prog 12 #[.slice A vs.length cap, .int .i64 left] w fun e w' => e = .returned (.int .i64 (szL vs left)) ∧ Below w.heap.size w w' := by
  unfold maxLen at hl
  by_cases g : left - vs.length < 0
  · have d : decide (left - (vs.length : Int) < 0) = true := by simp; omega
    have d2 : left < (vs.length : Int) := by omega
    go_enter Try.func12, Try.ntmps12
    go_wp2_with fail
    go_ret
    exact ⟨ret_int (by unfold szL; rw [if_pos (by omega)]), Below.refl _ _⟩
  · have d : decide (left - (vs.length : Int) < 0) = false := by simp; omega
    have d2 : ¬ left < (vs.length : Int) := by omega
    have HG := Lib.hid g
    clear g
    go_enter Try.func12, Try.ntmps12
    go_wp2_with fail
    go_loopg [1, 5] (vs.length + 1) (fun g s1 s5 wr => ∃ (k : Nat) (m : Int), k ≤ vs.length ∧ s5 = .int .i64 k ∧ s1 = .int .i64 m ∧ 0 ≤ m ∧ m ≤ 1048576 ∧ vs.length - k < g ∧ Hid (szGo (vs.drop k) m = szGo vs (left - vs.length)) ∧ Below w.heap.size w wr)
    case atStart => exact ⟨0, left - vs.length, Nat.zero_le _, rfl, rfl, by omega, by omega, by omega, rfl, Below.refl _ _⟩
    case round =>
      obtain ⟨k, m, hk, rfl, rfl, hm0, hm1, hg, HS, hbel⟩ := hrel
      cases gk with
      | zero => omega
      | succ g =>
      by_cases hlt : k < vs.length
      · obtain ⟨b, off, A1, c1, A2, c2, rfl, hb, r1, r2, _, l1, m1, _, l2, m2⟩ := (h.below hbel).at_ hlt
        have hd := List.drop_eq_getElem_cons hlt
        have HD := Lib.hid hd
        have hsz := hbel.size
        have k1 : (k : Int) < (vs.length : Int) := by omega
        obtain ⟨q, hq⟩ : ∃ q, q = szV vs[k] m := ⟨_, rfl⟩
        have hqb := szV_bd vs[k] m hm1
        rw [← hq] at hqb
        have HQ := Lib.hid hq
        have hcall : ∀ W : World, Calls Try.prog 38 #[.agg #[.slice A1 vs[k].1.length c1, .slice A2 vs[k].2.length c2], .int .i64 m] W fun e w' => e = .returned (.int .i64 q) ∧ Below W.heap.size W w' := by
          intro W
          rw [hq]
          exact laws_szVertex A1 A2 c1 c2 vs[k].1 vs[k].2 m W (Nat.le_trans l1 m1) (Nat.le_trans l2 m2) hm0 hm1
        have HCALL := Lib.hid hcall
        clear hd hq hcall
        go_wp2_with fail
        refine (HCALL.out wr).mono ?_
        rintro e w2 ⟨rfl, hb2⟩
        have hbel2 := hbel.trans (hb2.mono hsz)
        clear hb2 hbel
        by_cases gq : q < 0
        · have dq : decide (q < 0) = true := by simp; omega
          go_wp2_with fail
          go_ret
          exact ⟨ret_int (by unfold szL; rw [if_neg (by have := HG.out; omega), ← HS.out, HD.out, szGo, ← HQ.out, if_pos gq]), hbel2⟩
        · have dq : decide (q < 0) = false := by simp; omega
          have HS2 : Hid (szGo (vs.drop (k + 1)) q = szGo vs (left - vs.length)) := by show _ = _; rw [← HS.out, HD.out, szGo, ← HQ.out, if_neg gq]
          go_wp2_with fail
          go_roundg g
          case measure => omega
          case rel => exact ⟨k + 1, q, by omega, by go_num, rfl, by omega, by omega, by omega, HS2, hbel2⟩
      · obtain rfl : k = vs.length := by omega
        go_wp2_with fail
        go_ret
        exact ⟨ret_int (by unfold szL; rw [if_neg (by have := HG.out; omega), ← HS.out, List.drop_length]; rfl), hbel⟩

end Go.Proofs.Ytmadagkdgpohiaa
