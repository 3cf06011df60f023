/- Patterns as interface values: patternOf; the folds of a vertex. No condition but sizes. -/
import Derived.Test.YtnccpifdajcejaaPatK
import Derived.Test.YtnccpifdajcejaaImplC
namespace Go.Proofs.Ytnccpifdajcejaa
open Go.RowKit

/-- the folds of creases -/
def pickL (s : ByteArray) (cs : List Int) : List UInt8 := cs.map fun c => s.data.toList.getD c.toNat 0
theorem pickL_len (s : ByteArray) (cs : List Int) : (pickL s cs).length = cs.length := by simp [pickL]
def picked (s : ByteArray) (cs : List Int) : ByteArray := ⟨(pickL s cs).toArray⟩
theorem pickL_take (s : ByteArray) (cs : List Int) {k : Nat} (h : k < cs.length) {m : Nat} (hm : cs[k] = (m : Int)) (hs : m < s.size) : pickL s (cs.take (k + 1)) = pickL s (cs.take k) ++ [s[m]] := by
  unfold pickL
  rw [List.take_succ_eq_append_getElem h, List.map_append]
  congr 1
  simp only [List.map_cons, List.map_nil, hm, Int.toNat_natCast]
  have h2 : m < s.data.toList.length := by simpa using hs
  rw [List.getD_eq_getElem?_getD, List.getElem?_eq_getElem h2]
  simp
  rfl

set_option maxHeartbeats 1000000 in
set_option maxRecDepth 100000 in
theorem impl_foldsOfCreases (A : Option Addr) (cap : Nat) (cs : List Int) (s : ByteArray) (w : World) (h : Ints w A cs) (hl : cs.length ≤ 1000) (hx : ∀ c ∈ cs, 0 ≤ c ∧ c < s.size) (_hs : s.size ≤ 1000) :
    Calls Try.prog 79 #[.slice A cs.length cap, .string s] w fun e w' => e = .returned (.string (picked s cs)) ∧ Below w.heap.size w w' := by
  obtain ⟨j0, hj, hy0, hy1, hy2⟩ := info_parts Try.infoByte
  have HX := Lib.hid hx
  clear hx
  go_enter Try.func79, Try.ntmps79
  go_wp2_with (at_make; go_loud (refine wpList_make_own _ rfl _ _ 22 rfl w.heap.size 5 j0 (.int .u8 0) 1 Try.underlying22 hj hy0 hy1 .i64 .i64 _ cs.length (by rfl) (by rfl) (by rfl) (by rw [hy2]; omega) (by unfold maxLen; omega) (Nat.le_refl _) ?_))
  intro w1 hown1 hg1
  have hb1 : Below w.heap.size w w1 := (Below.refl _ _).grown hg1 (Nat.le_refl _) (by intro k hk; cases hk)
  have hown2 : OwnB w1 w.heap.size (.slice (some ⟨w.heap.size, 0, none⟩) 0 cs.length) (pickL s (cs.take 0)) := hown1
  have HO := Lib.hid hown2
  have HB := Lib.hid hb1
  clear hj hy0 hy1 hy2 hown1 hown2 hg1 hb1
  go_wp2_with fail
  go_loopg [5, 7, 13] (cs.length + 1) (fun g s5 s7 s13 wr => ∃ (k : Nat), s7 = s7 ∧ k ≤ cs.length ∧ s13 = .int .i64 k ∧ cs.length - k < g ∧ OwnB wr w.heap.size s5 (pickL s (cs.take k)) ∧ Hid (Below w.heap.size w wr))
  case atStart => exact ⟨0, rfl, Nat.zero_le _, rfl, by omega, HO.out, HB⟩
  case round =>
    clear HO HB
    obtain ⟨k, _, hk, rfl, hg, hown, HB⟩ := hrel
    cases gk with
    | zero => omega
    | succ g =>
    by_cases hlt : k < cs.length
    · obtain ⟨m, hm⟩ : ∃ m : Nat, cs[k] = (m : Int) := ⟨cs[k].toNat, by have := HX.out cs[k] (List.getElem_mem hlt); omega⟩
      have hms : m < s.size := by have := HX.out cs[k] (List.getElem_mem hlt); omega
      obtain ⟨b, off, rfl, hb, hc⟩ := (h.below HB.out) (by intro e; subst e; simp at hlt)
      have c1 := hc k cs[k] (List.getElem?_eq_getElem hlt)
      rw [hm] at c1
      have HT := Lib.hid (pickL_take s cs hlt hm hms)
      have k1 : (k : Int) < (cs.length : Int) := by omega
      have k0 : (0 : Int) ≤ (k : Int) := by omega
      have hsz := HB.out.size
      have hln : (pickL s (cs.take k)).length ≤ 1000 := by rw [pickL_len, List.length_take]; omega
      clear hm hc
      go_wp2_with (at_builtin; go_loud (refine wpList_pushB (W := wr) rfl _ _ rfl w.heap.size _ _ s[m] _ (by rfl) (by rfl) (by rfl) hown hsz (by omega) ?_))
      intro v' w3 hown3 hgr3 hb3
      rw [← HT.out] at hown3
      have HB3 := Lib.hid (HB.out.trans hb3)
      clear hown hgr3 hb3 c1 hln
      go_wp2_with fail
      go_roundg g
      case measure => omega
      case rel => exact ⟨k + 1, trivial, by omega, by go_num, by omega, hown3, HB3⟩
    · obtain rfl : k = cs.length := by omega
      have hst : (convert 22 9 _).run Try.prog wr = .ok (.string ⟨(pickL s (cs.take cs.length)).toArray⟩) wr := run_ownB_string hown
      rw [List.take_length] at hst
      have HST := Lib.hid hst
      clear hst hown
      go_wp2_with fail
      rw [HST.out]
      go_wp2_with fail
      go_ret
      exact ⟨rfl, HB.out⟩
/-- a pattern as an interface value -/
inductive PatV (w : World) : List Vx → Value → Prop
  | one (v : Vx) (U V : Value) : IntsV w U v.1 → IntsV w V v.2 → PatV w [v] (.iface 83 (.agg #[U, V]))
  | more (us : List Vx) (v : Vx) (Y U V : Value) : us ≠ [] → PatV w us Y → IntsV w U v.1 → IntsV w V v.2 → PatV w (us ++ [v]) (.iface 85 (.agg #[Y, U, V]))
theorem PatV.keep {w w' : World} {vs : List Vx} {X : Value} (h : PatV w vs X) (hb : Below w.heap.size w w') : PatV w' vs X := by
  induction h with
  | one v U V h1 h2 => exact .one v U V (h1.below hb) (h2.below hb)
  | more us v Y U V hn _ h1 h2 ih => exact .more us v Y U V hn ih (h1.below hb) (h2.below hb)
theorem PatV.form {w : World} {vs : List Vx} {X : Value} (h : PatV w vs X) : ∃ t Y, X = .iface t Y := by cases h <;> exact ⟨_, _, rfl⟩
theorem Verts.init {w : World} {A : Option Addr} {us : List Vx} {v : Vx} (h : Verts w A (us ++ [v])) : Verts w A us := by
  intro _
  obtain ⟨b, off, e, hb, hc⟩ := h (by simp)
  refine ⟨b, off, e, hb, fun k u hk => hc k u ?_⟩
  have := (List.getElem?_eq_some_iff.1 hk).1
  rw [List.getElem?_append_left this]; exact hk

set_option maxHeartbeats 2000000 in
theorem impl_patternOf (n : Nat) : ∀ (A : Option Addr) (cap : Nat) (us : List Vx) (v : Vx) (w : World), us.length = n → n ≤ 2 → Verts w A (us ++ [v]) → n + 1 ≤ cap → cap ≤ maxLen →
    Calls Try.prog 62 #[.slice A (n + 1) cap] w fun e w' => ∃ X, e = .returned X ∧ PatV w' (us ++ [v]) X ∧ Below w.heap.size w w' := by
  induction n with
  | zero =>
    intro A cap us v w hu _ h hcap hcm
    have hu0 : us = [] := List.eq_nil_of_length_eq_zero hu
    subst hu0
    obtain ⟨b, off, A1, c1, A2, c2, rfl, hb, r1, r2, i1, l1, m1, i2, l2, m2⟩ := h.at_ (k := 0) (by simp)
    simp only [List.nil_append, List.getElem_cons_zero, Nat.zero_mul, Nat.add_zero] at r1 r2 i1 l1 i2 l2 h ⊢
    have I1 := Lib.hid i1
    have I2 := Lib.hid i2
    clear i1 i2 h hu
    go_enter Try.func62, Try.ntmps62
    go_wp2_with fail
    go_ret
    have hbel : Below w.heap.size w (w.alloc (.cells #[.slice A1 v.1.length c1, .slice A2 v.2.length c2] 83)) := (Below.refl _ _).alloc (Nat.le_refl _) _
    exact ⟨_, rfl, .one v _ _ ⟨A1, c1, rfl, I1.out.below hbel, l1, m1⟩ ⟨A2, c2, rfl, I2.out.below hbel, l2, m2⟩, hbel⟩
  | succ n ih =>
    intro A cap us v w hu hn2 h hcap hcm
    obtain ⟨us0, u0, hus⟩ : ∃ us0 u0, us = us0 ++ [u0] := ⟨us.dropLast, us.getLast (by intro e; rw [e] at hu; cases hu), (List.dropLast_concat_getLast _).symm⟩
    have hu0 : us0.length = n := by rw [hus] at hu; simpa using hu
    obtain ⟨b, off, rfl, hb, hc⟩ := h (by simp)
    obtain ⟨U, V, r1, r2, ⟨A1, c1, rfl, i1, l1, m1⟩, ⟨A2, c2, rfl, i2, l2, m2⟩⟩ := hc (n + 1) v (by rw [← hu]; simp)
    have hne : us ≠ [] := by intro e; rw [e] at hu; cases hu
    obtain ⟨m, hm⟩ : ∃ m, m = n + 1 := ⟨_, rfl⟩
    have hcall : ∀ W : World, Below w.heap.size w W → Calls Try.prog 62 #[.slice (some ⟨b, off, none⟩) m cap] W fun e w' => ∃ X, e = .returned X ∧ PatV w' us X ∧ Below W.heap.size W w' := by
      intro W hW
      have := ih (some ⟨b, off, none⟩) cap us0 u0 W hu0 (by omega) (by rw [← hus]; exact (h.init).below hW) (by omega) hcm
      rw [← hus, ← hm] at this
      exact this
    rw [← hm] at r1 r2 hn2 hcap ⊢
    have I1 := Lib.hid i1
    have I2 := Lib.hid i2
    have HCALL := Lib.hid hcall
    have HNE := Lib.hid hne
    have hm1 : 1 ≤ m := by omega
    have d1 : (((m : Int) + 1) == 1) = false := by rw [beq_eq_false_iff_ne]; omega
    have k0 : (0 : Int) ≤ (m : Int) := by omega
    have k1 : (m : Int) < (m : Int) + 1 := by omega
    have k2 : (m : Int) ≤ (cap : Int) := by omega
    have k3 : (m : Int) ≤ (m : Int) + 1 := by omega
    have k4 : m ≤ cap := by omega
    have k6 : ¬ cap = 0 := by omega
    have k5 : (m : Int) + 1 - 1 = (m : Int) := by omega
    have kw : IntKind.i64.wrap ((m : Int) + 1 - 1) = (m : Int) := by rw [k5]; exact IntWalk.i64_in _ (by omega)
    have kw2 : IntKind.i64.wrap (m : Int) = (m : Int) := IntWalk.i64_in _ (by omega)
    clear k5
    clear i1 i2 h hu hcall hc hu0 hus ih hm hne
    obtain ⟨w2, hw2⟩ : ∃ w2, w2 = w.alloc (.cells #[.slice A1 v.1.length c1, .slice A2 v.2.length c2] 83) := ⟨_, rfl⟩
    have b2 : Below w.heap.size w w2 := by rw [hw2]; exact (Below.refl _ _).alloc (Nat.le_refl _) _
    have K2 : Blk w2 w.heap.size 83 #[.slice A1 v.1.length c1, .slice A2 v.2.length c2] := by rw [hw2]; exact Blk.new w _ _
    have a0 := K2.cell 0
    have a1 := K2.cell 1
    have HW := Lib.hid hw2
    clear hw2
    go_enter Try.func62, Try.ntmps62
    go_wp2_with fail
    rw [← HW.out]
    go_region_held3 (fun W => W.cell? ⟨w.heap.size, 0, none⟩ = some (.slice A1 v.1.length c1) ∧ W.cell? ⟨w.heap.size, 1, none⟩ = some (.slice A2 v.2.length c2)) (first | exact ⟨a0, a1⟩ | exact ⟨(hbx.cell (p := ⟨w.heap.size, 0, none⟩) K2.lt).trans a0, (hbx.cell (p := ⟨w.heap.size, 1, none⟩) K2.lt).trans a1⟩) ((go_simp; go_at_call 62; refine (HCALL.out _ (below_drewN b2 _)).mono ?_; rintro e w3 ⟨X, rfl, hX, hbx⟩; obtain ⟨tX, Y, rfl⟩ := hX.form))
    all_goals
      have b3 : Below w.heap.size w w3 := b2.trans ((⟨hbx.os, hbx.tape, hbx.output, hbx.size, hbx.block⟩ : Below w2.heap.size w2 w3).mono b2.size)
      go_wp2_with fail
      go_ret
      exact ⟨_, rfl, .more us v _ _ _ HNE.out hX ⟨A1, c1, rfl, I1.out.below b3, l1, m1⟩ ⟨A2, c2, rfl, I2.out.below b3, l2, m2⟩, b3⟩
end Go.Proofs.Ytnccpifdajcejaa
