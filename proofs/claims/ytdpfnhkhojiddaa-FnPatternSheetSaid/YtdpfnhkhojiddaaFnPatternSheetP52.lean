/- Patterns as interface values: patternOf; the folds of a vertex. No condition but sizes. countVertices with the program's VertexFolds; PatternFolds. No condition but sizes. The number of vertices of a pattern value; PatternFolds. No condition but sizes. The reference's 'l1Crimps': the same indexes as the program's 'crimps'. No condition but sizes. -/
import Derived.Test.YtdpfnhkhojiddaaFnPatternSheetP51
import Derived.Test.YtdpfnhkhojiddaaImplB
import Derived.Handy
import Derived.Test.YtdpfnhkhojiddaaFnPatternSheetP50
namespace Go.Proofs.Ytdpfnhkhojiddaa
open Go.RowKit

/-- the folds of creases -/
def pickL (s : ByteArray) (cs : List Int) : List UInt8 := cs.map fun c => s.data.toList.getD c.toNat 0
theorem pickL_len (s : ByteArray) (cs : List Int) : (pickL s cs).length = cs.length := by simp [pickL]
def picked (s : ByteArray) (cs : List Int) : ByteArray := ⟨(pickL s cs).toArray⟩
theorem pickL_take (s : ByteArray) (cs : List Int) {k : Nat} (h : k < cs.length) {m : Nat} (hm : cs[k] = (m : Int)) (hs : m < s.size) : pickL s (cs.take (k + 1)) = pickL s (cs.take k) ++ [s[m]] := by
  unfold pickL
  rw [List.take_succ_eq_append_getElem h, List.map_append]
  congr 1
  simp only [List.map_cons, List.map_nil, hm, Int.toNat_natCast]
  have h2 : m < s.data.toList.length := by simpa using hs
  rw [List.getD_eq_getElem?_getD, List.getElem?_eq_getElem h2]
  simp
  rfl

set_option maxHeartbeats 1000000 in
set_option maxRecDepth 100000 in
theorem impl_foldsOfCreases (A : Option Addr) (cap : Nat) (cs : List Int) (s : ByteArray) (w : World) (h : Ints w A cs) (hl : cs.length ≤ 1000) (hx : ∀ c ∈ cs, 0 ≤ c ∧ c < s.size) (_hs : s.size ≤ 1000) :
    Calls Try.prog 40 #[.slice A cs.length cap, .string s] w fun e w' => e = .returned (.string (picked s cs)) ∧ Below w.heap.size w w' := by
  obtain ⟨j0, hj, hy0, hy1, hy2⟩ := info_parts Try.infoByte
  have HX := Lib.hid hx
  clear hx
  go_enter Try.func40, Try.ntmps40
  go_wp2_with (at_make; go_loud (refine wpList_make_own _ rfl _ _ 22 rfl w.heap.size 5 j0 (.int .u8 0) 1 Try.underlying22 hj hy0 hy1 .i64 .i64 _ cs.length (by rfl) (by rfl) (by rfl) (by rw [hy2]; omega) (by unfold maxLen; omega) (Nat.le_refl _) ?_))
  intro w1 hown1 hg1
  have hb1 : Below w.heap.size w w1 := (Below.refl _ _).grown hg1 (Nat.le_refl _) (by intro k hk; cases hk)
  have hown2 : OwnB w1 w.heap.size (.slice (some ⟨w.heap.size, 0, none⟩) 0 cs.length) (pickL s (cs.take 0)) := hown1
  have HO := Lib.hid hown2
  have HB := Lib.hid hb1
  clear hj hy0 hy1 hy2 hown1 hown2 hg1 hb1
  go_wp2_with fail
  go_loopg [5, 7, 13] (cs.length + 1) (fun g s5 s7 s13 wr => ∃ (k : Nat), s7 = s7 ∧ k ≤ cs.length ∧ s13 = .int .i64 k ∧ cs.length - k < g ∧ OwnB wr w.heap.size s5 (pickL s (cs.take k)) ∧ Hid (Below w.heap.size w wr))
  case atStart => exact ⟨0, rfl, Nat.zero_le _, rfl, by omega, HO.out, HB⟩
  case round =>
    clear HO HB
    obtain ⟨k, _, hk, rfl, hg, hown, HB⟩ := hrel
    cases gk with
    | zero => omega
    | succ g =>
    by_cases hlt : k < cs.length
    · obtain ⟨m, hm⟩ : ∃ m : Nat, cs[k] = (m : Int) := ⟨cs[k].toNat, by have := HX.out cs[k] (List.getElem_mem hlt); omega⟩
      have hms : m < s.size := by have := HX.out cs[k] (List.getElem_mem hlt); omega
      obtain ⟨b, off, rfl, hb, hc⟩ := (h.below HB.out) (by intro e; subst e; simp at hlt)
      have c1 := hc k cs[k] (List.getElem?_eq_getElem hlt)
      rw [hm] at c1
      have HT := Lib.hid (pickL_take s cs hlt hm hms)
      have k1 : (k : Int) < (cs.length : Int) := by omega
      have k0 : (0 : Int) ≤ (k : Int) := by omega
      have hsz := HB.out.size
      have hln : (pickL s (cs.take k)).length ≤ 1000 := by rw [pickL_len, List.length_take]; omega
      clear hm hc
      go_wp2_with (at_builtin; go_loud (refine wpList_pushB (W := wr) rfl _ _ rfl w.heap.size _ _ s[m] _ (by rfl) (by rfl) (by rfl) hown hsz (by omega) ?_))
      intro v' w3 hown3 hgr3 hb3
      rw [← HT.out] at hown3
      have HB3 := Lib.hid (HB.out.trans hb3)
      clear hown hgr3 hb3 c1 hln
      go_wp2_with fail
      go_roundg g
      case measure => omega
      case rel => exact ⟨k + 1, trivial, by omega, by go_num, by omega, hown3, HB3⟩
    · obtain rfl : k = cs.length := by omega
      have hst : (convert 22 9 _).run Try.prog wr = .ok (.string ⟨(pickL s (cs.take cs.length)).toArray⟩) wr := run_ownB_string hown
      rw [List.take_length] at hst
      have HST := Lib.hid hst
      clear hst hown
      go_wp2_with fail
      rw [HST.out]
      go_wp2_with fail
      go_ret
      exact ⟨rfl, HB.out⟩
/-- a pattern as an interface value -/
inductive PatV (w : World) : List Vx → Value → Prop
  | one (v : Vx) (U V : Value) : IntsV w U v.1 → IntsV w V v.2 → PatV w [v] (.iface 78 (.agg #[U, V]))
  | more (us : List Vx) (v : Vx) (Y U V : Value) : us ≠ [] → PatV w us Y → IntsV w U v.1 → IntsV w V v.2 → PatV w (us ++ [v]) (.iface 80 (.agg #[Y, U, V]))
theorem PatV.keep {w w' : World} {vs : List Vx} {X : Value} (h : PatV w vs X) (hb : Below w.heap.size w w') : PatV w' vs X := by
  induction h with
  | one v U V h1 h2 => exact .one v U V (h1.below hb) (h2.below hb)
  | more us v Y U V hn _ h1 h2 ih => exact .more us v Y U V hn ih (h1.below hb) (h2.below hb)
theorem PatV.form {w : World} {vs : List Vx} {X : Value} (h : PatV w vs X) : ∃ t Y, X = .iface t Y := by cases h <;> exact ⟨_, _, rfl⟩
theorem Verts.init {w : World} {A : Option Addr} {us : List Vx} {v : Vx} (h : Verts w A (us ++ [v])) : Verts w A us := by
  intro _
  obtain ⟨b, off, e, hb, hc⟩ := h (by simp)
  refine ⟨b, off, e, hb, fun k u hk => hc k u ?_⟩
  have := (List.getElem?_eq_some_iff.1 hk).1
  rw [List.getElem?_append_left this]; exact hk

set_option maxHeartbeats 2000000 in
theorem impl_patternOf (n : Nat) : ∀ (A : Option Addr) (cap : Nat) (us : List Vx) (v : Vx) (w : World), us.length = n → n ≤ 2 → Verts w A (us ++ [v]) → n + 1 ≤ cap → cap ≤ maxLen →
    Calls Try.prog 27 #[.slice A (n + 1) cap] w fun e w' => ∃ X, e = .returned X ∧ PatV w' (us ++ [v]) X ∧ Below w.heap.size w w' := by
  induction n with
  | zero =>
    intro A cap us v w hu _ h hcap hcm
    have hu0 : us = [] := List.eq_nil_of_length_eq_zero hu
    subst hu0
    obtain ⟨b, off, A1, c1, A2, c2, rfl, hb, r1, r2, i1, l1, m1, i2, l2, m2⟩ := h.at_ (k := 0) (by simp)
    simp only [List.nil_append, List.getElem_cons_zero, Nat.zero_mul, Nat.add_zero] at r1 r2 i1 l1 i2 l2 h ⊢
    have I1 := Lib.hid i1
    have I2 := Lib.hid i2
    clear i1 i2 h hu
    go_enter Try.func27, Try.ntmps27
    go_wp2_with fail
    go_ret
    have hbel : Below w.heap.size w (w.alloc (.cells #[.slice A1 v.1.length c1, .slice A2 v.2.length c2] 78)) := (Below.refl _ _).alloc (Nat.le_refl _) _
    exact ⟨_, rfl, .one v _ _ ⟨A1, c1, rfl, I1.out.below hbel, l1, m1⟩ ⟨A2, c2, rfl, I2.out.below hbel, l2, m2⟩, hbel⟩
  | succ n ih =>
    intro A cap us v w hu hn2 h hcap hcm
    obtain ⟨us0, u0, hus⟩ : ∃ us0 u0, us = us0 ++ [u0] := ⟨us.dropLast, us.getLast (by intro e; rw [e] at hu; cases hu), (List.dropLast_concat_getLast _).symm⟩
    have hu0 : us0.length = n := by rw [hus] at hu; simpa using hu
    obtain ⟨b, off, rfl, hb, hc⟩ := h (by simp)
    obtain ⟨U, V, r1, r2, ⟨A1, c1, rfl, i1, l1, m1⟩, ⟨A2, c2, rfl, i2, l2, m2⟩⟩ := hc (n + 1) v (by rw [← hu]; simp)
    have hne : us ≠ [] := by intro e; rw [e] at hu; cases hu
    obtain ⟨m, hm⟩ : ∃ m, m = n + 1 := ⟨_, rfl⟩
    have hcall : ∀ W : World, Below w.heap.size w W → Calls Try.prog 27 #[.slice (some ⟨b, off, none⟩) m cap] W fun e w' => ∃ X, e = .returned X ∧ PatV w' us X ∧ Below W.heap.size W w' := by
      intro W hW
      have := ih (some ⟨b, off, none⟩) cap us0 u0 W hu0 (by omega) (by rw [← hus]; exact (h.init).below hW) (by omega) hcm
      rw [← hus, ← hm] at this
      exact this
    rw [← hm] at r1 r2 hn2 hcap ⊢
    have I1 := Lib.hid i1
    have I2 := Lib.hid i2
    have HCALL := Lib.hid hcall
    have HNE := Lib.hid hne
    have hm1 : 1 ≤ m := by omega
    have d1 : (((m : Int) + 1) == 1) = false := by rw [beq_eq_false_iff_ne]; omega
    have k0 : (0 : Int) ≤ (m : Int) := by omega
    have k1 : (m : Int) < (m : Int) + 1 := by omega
    have k2 : (m : Int) ≤ (cap : Int) := by omega
    have k3 : (m : Int) ≤ (m : Int) + 1 := by omega
    have k4 : m ≤ cap := by omega
    have k6 : ¬ cap = 0 := by omega
    have k5 : (m : Int) + 1 - 1 = (m : Int) := by omega
    have kw : IntKind.i64.wrap ((m : Int) + 1 - 1) = (m : Int) := by rw [k5]; exact IntWalk.i64_in _ (by omega)
    have kw2 : IntKind.i64.wrap (m : Int) = (m : Int) := IntWalk.i64_in _ (by omega)
    clear k5
    clear i1 i2 h hu hcall hc hu0 hus ih hm hne
    obtain ⟨w2, hw2⟩ : ∃ w2, w2 = w.alloc (.cells #[.slice A1 v.1.length c1, .slice A2 v.2.length c2] 78) := ⟨_, rfl⟩
    have b2 : Below w.heap.size w w2 := by rw [hw2]; exact (Below.refl _ _).alloc (Nat.le_refl _) _
    have K2 : Blk w2 w.heap.size 78 #[.slice A1 v.1.length c1, .slice A2 v.2.length c2] := by rw [hw2]; exact Blk.new w _ _
    have a0 := K2.cell 0
    have a1 := K2.cell 1
    have HW := Lib.hid hw2
    clear hw2
    go_enter Try.func27, Try.ntmps27
    go_wp2_with fail
    rw [← HW.out]
    go_region_held3 (fun W => W.cell? ⟨w.heap.size, 0, none⟩ = some (.slice A1 v.1.length c1) ∧ W.cell? ⟨w.heap.size, 1, none⟩ = some (.slice A2 v.2.length c2)) (first | exact ⟨a0, a1⟩ | exact ⟨(hbx.cell (p := ⟨w.heap.size, 0, none⟩) K2.lt).trans a0, (hbx.cell (p := ⟨w.heap.size, 1, none⟩) K2.lt).trans a1⟩) ((go_simp; go_at_call 27; refine (HCALL.out _ (below_drewN b2 _)).mono ?_; rintro e w3 ⟨X, rfl, hX, hbx⟩; obtain ⟨tX, Y, rfl⟩ := hX.form))
    all_goals
      have b3 : Below w.heap.size w w3 := b2.trans ((⟨hbx.os, hbx.tape, hbx.output, hbx.size, hbx.block⟩ : Below w2.heap.size w2 w3).mono b2.size)
      go_wp2_with fail
      go_ret
      exact ⟨_, rfl, .more us v _ _ _ HNE.out hX ⟨A1, c1, rfl, I1.out.below b3, l1, m1⟩ ⟨A2, c2, rfl, I2.out.below b3, l2, m2⟩, b3⟩
end Go.Proofs.Ytdpfnhkhojiddaa
namespace Go.Proofs.Ytdpfnhkhojiddaa
open Go.RowKit

/-- of how many vertices a test holds -/
def cntX (t : Vx → Bool) (vs : List Vx) : Nat := (vs.filter t).length
theorem cntX_one (t : Vx → Bool) (v : Vx) : cntX t [v] = if t v then 1 else 0 := by
  unfold cntX
  cases h : t v with
  | false => rw [List.filter_cons_of_neg (by simp [h])]; rfl
  | true => rw [List.filter_cons_of_pos h]; rfl
theorem cntX_snoc (t : Vx → Bool) (us : List Vx) (v : Vx) : cntX t (us ++ [v]) = cntX t us + cntX t [v] := by simp [cntX]
theorem cntX_le (t : Vx → Bool) (vs : List Vx) : cntX t vs ≤ vs.length := List.length_filter_le _ _
/-- a vertex whose creases have folds in a text -/
def VOk (s : ByteArray) (v : Vx) : Prop := v.1.length ≤ 100 ∧ v.2.length ≤ 100 ∧ ∀ c ∈ v.2, 0 ≤ c ∧ c < s.size
def vfT (s : ByteArray) (v : Vx) : Bool := vfB v.1 (picked s v.2)
theorem picked_size (s : ByteArray) (cs : List Int) : (picked s cs).size = cs.length := by
  unfold picked
  show (pickL s cs).toArray.size = _
  rw [List.size_toArray, pickL_len]

theorem run_assert_yes {P : Program} (t xT : TypeId) (u : TypeDesc) (hu : P.underlying t = some u) (hne : ∀ m, u ≠ .interface m) (v : Value) (w : World) : (Instr.typeAssert (.iface t v) xT t true).run P w = .ok (.tuple #[v, .bool true]) w := by
  cases u <;> first | (exact absurd rfl (hne _)) | simp [Instr.typeAssert, run_underlying hu]
theorem run_assert_no {P : Program} (t t' xT : TypeId) (u : TypeDesc) (hu : P.underlying t = some u) (hne : ∀ m, u ≠ .interface m) (ht : t' ≠ t) (z : Value) (i : TypeInfo) (hi : P.info? t = some i) (hz : i.zero = some z) (v : Value) (w : World) : (Instr.typeAssert (.iface t' v) xT t true).run P w = .ok (.tuple #[z, .bool false]) w := by
  cases u <;> first | (exact absurd rfl (hne _)) | simp [Instr.typeAssert, run_underlying hu, ht, zeroValue, typeInfo, hi, hz]

set_option maxHeartbeats 2000000 in
theorem countF_one (s : ByteArray) (v : Vx) (U V : Value) (w : World) (h1 : IntsV w U v.1) (h2 : IntsV w V v.2) (hs : s.size ≤ 1000) (hv : VOk s v) :
    Calls Try.prog 28 #[.iface 78 (.agg #[U, V]), .string s, .func (.func 8) #[] #[]] w fun e w' => e = .returned (.int .i64 (cntX (vfT s) [v] : Nat)) ∧ Below w.heap.size w w' := by
  obtain ⟨A1, c1, rfl, i1, l1, m1⟩ := h1
  obtain ⟨A2, c2, rfl, i2, l2, m2⟩ := h2
  obtain ⟨n1, n2, hx⟩ := hv
  obtain ⟨w2, hw2⟩ : ∃ w2, w2 = w.alloc (.cells #[.slice A1 v.1.length c1, .slice A2 v.2.length c2] 78) := ⟨_, rfl⟩
  have b2 : Below w.heap.size w w2 := by rw [hw2]; exact (Below.refl _ _).alloc (Nat.le_refl _) _
  have K2 : Blk w2 w.heap.size 78 #[.slice A1 v.1.length c1, .slice A2 v.2.length c2] := by rw [hw2]; exact Blk.new w _ _
  have a0 := K2.cell 0
  have a1 := K2.cell 1
  have HW := Lib.hid hw2
  have I1 := Lib.hid (i1.below b2)
  have I2 := Lib.hid (i2.below b2)
  obtain ⟨q, hq⟩ : ∃ q, q = picked s v.2 := ⟨_, rfl⟩
  obtain ⟨b, hb⟩ : ∃ b, b = vfT s v := ⟨_, rfl⟩
  have hc1 : ∀ W : World, Below w2.heap.size w2 W → Calls Try.prog 40 #[.slice A2 v.2.length c2, .string s] W fun e w' => e = .returned (.string q) ∧ Below W.heap.size W w' := fun W hW => by
    rw [hq]; exact impl_foldsOfCreases A2 c2 v.2 s W ((i2.below b2).below hW) (by omega) hx hs
  have hc2 : ∀ W : World, Below w2.heap.size w2 W → Calls Try.prog 8 #[.slice A1 v.1.length c1, .string q] W fun e w' => e = .returned (.bool b) ∧ Below W.heap.size W w' := fun W hW => by
    rw [hb, hq]; exact impl_VertexFolds A1 c1 v.1 (picked s v.2) W ((i1.below b2).below hW) (by unfold maxLen; omega) (by rw [picked_size]; unfold maxLen; omega)
  have HC1 := Lib.hid hc1
  have HC2 := Lib.hid hc2
  have HQ := Lib.hid hb
  clear hw2 i1 i2 hx hq hb hc1 hc2 I1 I2
  have as1 : ∀ v W, (Instr.typeAssert (.iface 78 v) 57 78 true).run Try.prog W = .ok (.tuple #[v, .bool true]) W := fun v W => run_assert_yes _ _ _ Try.underlying78 (by intro m h; cases h) v W
  go_enter Try.func28, Try.ntmps28
  go_wp2_with fail
  rw [← HW.out]
  go_region_held3 (fun W => W.cell? ⟨w.heap.size, 0, none⟩ = some (.slice A1 v.1.length c1) ∧ W.cell? ⟨w.heap.size, 1, none⟩ = some (.slice A2 v.2.length c2)) (first | exact ⟨a0, a1⟩ | exact ⟨(hby.cell (p := ⟨w.heap.size, 0, none⟩) (Nat.lt_of_lt_of_le K2.lt hbx.size)).trans ((hbx.cell (p := ⟨w.heap.size, 0, none⟩) K2.lt).trans a0), (hby.cell (p := ⟨w.heap.size, 1, none⟩) (Nat.lt_of_lt_of_le K2.lt hbx.size)).trans ((hbx.cell (p := ⟨w.heap.size, 1, none⟩) K2.lt).trans a1)⟩ | exact ⟨(hbx.cell (p := ⟨w.heap.size, 0, none⟩) K2.lt).trans a0, (hbx.cell (p := ⟨w.heap.size, 1, none⟩) K2.lt).trans a1⟩)
    (first
      | (go_simp; go_at_call 40; refine (HC1.out _ (below_drewN (Below.refl _ _) _)).mono ?_; rintro e w3 ⟨rfl, hbx⟩)
      | (go_simp; go_at_call 8; refine (HC2.out _ (below_from (below_drewN (Below.refl _ _) _) hbx (Nat.le_refl _))).mono ?_; rintro e w4 ⟨rfl, hby⟩))
  all_goals
    have b4 : Below w.heap.size w w4 := b2.trans ((below_from (⟨hbx.os, hbx.tape, hbx.output, hbx.size, hbx.block⟩ : Below w2.heap.size w2 w3) hby hbx.size).mono b2.size)
    cases b with
    | false =>
      go_wp2_with fail
      go_ret
      exact ⟨ret_int (by rw [cntX_one, ← HQ.out]; rfl), b4⟩
    | true =>
      go_wp2_with fail
      go_ret
      exact ⟨ret_int (by rw [cntX_one, ← HQ.out]; rfl), b4⟩
theorem Try.infoSv : (Try.prog.info? 78).map (fun i => (i.zero, i.size, i.bytes)) = some (some (.agg #[.slice none 0 0, .slice none 0 0]), 2, 48) := by kernel_rfl
set_option maxHeartbeats 2000000 in
theorem countF_any (s : ByteArray) (vs : List Vx) (X : Value) (w : World) (h : PatV w vs X) (hs : s.size ≤ 1000) (hv : ∀ v ∈ vs, VOk s v) (hl : vs.length ≤ 1000) :
    ∀ W : World, Below w.heap.size w W → Calls Try.prog 28 #[X, .string s, .func (.func 8) #[] #[]] W fun e w' => e = .returned (.int .i64 (cntX (vfT s) vs : Nat)) ∧ Below W.heap.size W w' := by
  induction h with
  | one v U V h1 h2 => exact fun W hW => countF_one s v U V W (h1.below hW) (h2.below hW) hs (hv v (by simp))
  | more us v Y U V hne hY h1 h2 ih =>
    intro W hW
    obtain ⟨tY, Z, hYe⟩ := hY.form
    have hlu : us.length + 1 ≤ 1000 := by simpa using hl
    have ihu := ih (fun u hu => hv u (by simp [hu])) (by omega)
    obtain ⟨i0, hi, hz0, hz1, hz2⟩ := info_parts Try.infoSv
    obtain ⟨a, ha⟩ : ∃ a, a = cntX (vfT s) us := ⟨_, rfl⟩
    obtain ⟨b, hb⟩ : ∃ b, b = cntX (vfT s) [v] := ⟨_, rfl⟩
    have ha1 : a ≤ 1000 := by rw [ha]; exact Nat.le_trans (cntX_le _ _) (by omega)
    have hb1 : b ≤ 1 := by rw [hb]; exact cntX_le _ _
    have hsum : cntX (vfT s) (us ++ [v]) = a + b := by rw [cntX_snoc, ha, hb]
    have kw : IntKind.i64.wrap ((a : Int) + (b : Int)) = (a : Int) + (b : Int) := IntWalk.i64_in _ (by omega)
    rw [← ha] at ihu
    have as1 : ∀ v W, (Instr.typeAssert (.iface 80 v) 57 78 true).run Try.prog W = .ok (.tuple #[.agg #[.slice none 0 0, .slice none 0 0], .bool false]) W := fun v W => run_assert_no _ _ _ _ Try.underlying78 (by intro m h; cases h) (by decide) _ i0 hi hz0 v W
    have as2 : ∀ v W, (Instr.typeAssert (.iface 80 v) 57 80 true).run Try.prog W = .ok (.tuple #[v, .bool true]) W := fun v W => run_assert_yes _ _ _ Try.underlying80 (by intro m h; cases h) v W
    obtain ⟨A1, c1, rfl, i1, l1, m1⟩ := h1
    obtain ⟨A2, c2, rfl, i2, l2, m2⟩ := h2
    have hvv := hv v (by simp)
    obtain ⟨W2, hW2⟩ : ∃ W2, W2 = W.alloc (.cells #[.iface tY Z, .slice A1 v.1.length c1, .slice A2 v.2.length c2] 80) := ⟨_, rfl⟩
    have b2 : Below W.heap.size W W2 := by rw [hW2]; exact (Below.refl _ _).alloc (Nat.le_refl _) _
    have bb2 : Below w.heap.size w W2 := hW.trans (b2.mono hW.size)
    have K2 : Blk W2 W.heap.size 80 #[.iface tY Z, .slice A1 v.1.length c1, .slice A2 v.2.length c2] := by rw [hW2]; exact Blk.new W _ _
    have a0 := K2.cell 0
    have a1 := K2.cell 1
    have a2 := K2.cell 2
    have HW := Lib.hid hW2
    have hc1 : ∀ Q : World, Below w.heap.size w Q → Calls Try.prog 28 #[.iface tY Z, .string s, .func (.func 8) #[] #[]] Q fun e w' => e = .returned (.int .i64 (a : Int)) ∧ Below Q.heap.size Q w' := fun Q hQ => by rw [← hYe]; exact ihu Q hQ
    have hc2 : ∀ Q : World, Below w.heap.size w Q → Calls Try.prog 28 #[.iface 78 (.agg #[.slice A1 v.1.length c1, .slice A2 v.2.length c2]), .string s, .func (.func 8) #[] #[]] Q fun e w' => e = .returned (.int .i64 (b : Int)) ∧ Below Q.heap.size Q w' := fun Q hQ => by
      rw [hb]; exact countF_one s v _ _ Q ⟨A1, c1, rfl, i1.below hQ, l1, m1⟩ ⟨A2, c2, rfl, i2.below hQ, l2, m2⟩ hs hvv
    have HC1 := Lib.hid hc1
    have HC2 := Lib.hid hc2
    have HS := Lib.hid hsum
    have HBB := Lib.hid bb2
    subst hYe
    clear hW2 i1 i2 hc1 hc2 ha hb hsum ihu ih hv hvv hi hz0 hz1 hz2 hY hne hl hlu hW bb2
    go_enter Try.func28, Try.ntmps28
    go_wp2_with fail
    rw [← HW.out]
    go_region_held3 (fun Q => Q.cell? ⟨W.heap.size, 0, none⟩ = some (.iface tY Z) ∧ Q.cell? ⟨W.heap.size, 1, none⟩ = some (.slice A1 v.1.length c1) ∧ Q.cell? ⟨W.heap.size, 2, none⟩ = some (.slice A2 v.2.length c2))
      (first
        | exact ⟨a0, a1, a2⟩
        | exact ⟨(hby.cell (p := ⟨W.heap.size, 0, none⟩) (Nat.lt_of_lt_of_le K2.lt hbx.size)).trans ((hbx.cell (p := ⟨W.heap.size, 0, none⟩) K2.lt).trans a0), (hby.cell (p := ⟨W.heap.size, 1, none⟩) (Nat.lt_of_lt_of_le K2.lt hbx.size)).trans ((hbx.cell (p := ⟨W.heap.size, 1, none⟩) K2.lt).trans a1), (hby.cell (p := ⟨W.heap.size, 2, none⟩) (Nat.lt_of_lt_of_le K2.lt hbx.size)).trans ((hbx.cell (p := ⟨W.heap.size, 2, none⟩) K2.lt).trans a2)⟩
        | exact ⟨(hbx.cell (p := ⟨W.heap.size, 0, none⟩) K2.lt).trans a0, (hbx.cell (p := ⟨W.heap.size, 1, none⟩) K2.lt).trans a1, (hbx.cell (p := ⟨W.heap.size, 2, none⟩) K2.lt).trans a2⟩)
      (first
        | (have _hz := hbx.size; go_simp; go_at_call 28; refine (HC2.out _ (below_from HBB.out (⟨hbx.os, hbx.tape, hbx.output, hbx.size, hbx.block⟩ : Below W2.heap.size W2 w3) HBB.out.size)).mono ?_; rintro e w4 ⟨rfl, hby⟩)
        | (go_simp; go_at_call 28; refine (HC1.out _ (below_drewN HBB.out _)).mono ?_; rintro e w3 ⟨rfl, hbx⟩))
    all_goals
      have b4 : Below W.heap.size W w4 := b2.trans ((below_from (⟨hbx.os, hbx.tape, hbx.output, hbx.size, hbx.block⟩ : Below W2.heap.size W2 w3) hby hbx.size).mono b2.size)
      go_wp2_with fail
      go_ret
      exact ⟨ret_int (by rw [HS.out]; omega), b4⟩
end Go.Proofs.Ytdpfnhkhojiddaa
namespace Go.Proofs.Ytdpfnhkhojiddaa
open Go.RowKit

theorem vertices_one (A1 A2 : Option Addr) (n1 n2 c1 c2 : Nat) (w : World) :
    Calls Try.prog 77 #[.agg #[.slice A1 n1 c1, .slice A2 n2 c2]] w fun e w' => e = .returned (.int .i64 1) ∧ Below w.heap.size w w' := by
  go_enter Try.func77, Try.ntmps77
  go_wp2_with fail
  go_ret
  exact ⟨rfl, (Below.refl _ _).alloc (Nat.le_refl _) _⟩
set_option maxHeartbeats 2000000 in
theorem vertices_more (Y : Value) (n : Nat) (A1 A2 : Option Addr) (n1 n2 c1 c2 : Nat) (w : World) (hn : n ≤ 1000)
    (hY : (n = 1 ∧ ∃ B1 B2 k1 k2 d1 d2, Y = .iface 78 (.agg #[.slice B1 k1 d1, .slice B2 k2 d2])) ∨ ∃ Z, Y = .iface 80 Z ∧ ∀ W : World, Calls Try.prog 78 #[Z] W fun e w' => e = .returned (.int .i64 (n : Int)) ∧ Below W.heap.size W w') :
    Calls Try.prog 78 #[.agg #[Y, .slice A1 n1 c1, .slice A2 n2 c2]] w fun e w' => e = .returned (.int .i64 ((n + 1 : Nat) : Int)) ∧ Below w.heap.size w w' := by
  have kw : IntKind.i64.wrap ((n : Int) + 1) = (n : Int) + 1 := IntWalk.i64_in _ (by omega)
  have kw1 : IntKind.i64.wrap 2 = 2 := rfl
  obtain ⟨w2, hw2⟩ : ∃ w2, w2 = w.alloc (.cells #[Y, .slice A1 n1 c1, .slice A2 n2 c2] 80) := ⟨_, rfl⟩
  have b2 : Below w.heap.size w w2 := by rw [hw2]; exact (Below.refl _ _).alloc (Nat.le_refl _) _
  have K2 : Blk w2 w.heap.size 80 #[Y, .slice A1 n1 c1, .slice A2 n2 c2] := by rw [hw2]; exact Blk.new w _ _
  have a0 := K2.cell 0
  have a1 := K2.cell 1
  have a2 := K2.cell 2
  have HW := Lib.hid hw2
  clear hw2
  rcases hY with ⟨rfl, B1, B2, k1, k2, d1, d2, rfl⟩ | ⟨Z, rfl, hZ⟩
  · go_enter Try.func78, Try.ntmps78
    go_wp2_with fail
    rw [← HW.out]
    go_region_held3 (fun Q => Q.cell? ⟨w.heap.size, 0, none⟩ = some (.iface 78 (.agg #[.slice B1 k1 d1, .slice B2 k2 d2])) ∧ Q.cell? ⟨w.heap.size, 1, none⟩ = some (.slice A1 n1 c1) ∧ Q.cell? ⟨w.heap.size, 2, none⟩ = some (.slice A2 n2 c2))
      (first
        | exact ⟨a0, a1, a2⟩
        | exact ⟨(hby.cell (p := ⟨w.heap.size, 0, none⟩) (Nat.lt_of_lt_of_le K2.lt hbx.size)).trans ((hbx.cell (p := ⟨w.heap.size, 0, none⟩) K2.lt).trans a0), (hby.cell (p := ⟨w.heap.size, 1, none⟩) (Nat.lt_of_lt_of_le K2.lt hbx.size)).trans ((hbx.cell (p := ⟨w.heap.size, 1, none⟩) K2.lt).trans a1), (hby.cell (p := ⟨w.heap.size, 2, none⟩) (Nat.lt_of_lt_of_le K2.lt hbx.size)).trans ((hbx.cell (p := ⟨w.heap.size, 2, none⟩) K2.lt).trans a2)⟩
        | exact ⟨(hbx.cell (p := ⟨w.heap.size, 0, none⟩) K2.lt).trans a0, (hbx.cell (p := ⟨w.heap.size, 1, none⟩) K2.lt).trans a1, (hbx.cell (p := ⟨w.heap.size, 2, none⟩) K2.lt).trans a2⟩)
      (first
        | (have _hz := hbx.size; go_simp; go_at_call 77; refine (vertices_one _ _ _ _ _ _ _).mono ?_; rintro e w4 ⟨rfl, hby⟩)
        | (go_simp; go_at_call 77; refine (vertices_one _ _ _ _ _ _ _).mono ?_; rintro e w3 ⟨rfl, hbx⟩))
    all_goals
      have b4 : Below w.heap.size w w4 := b2.trans ((below_from (⟨hbx.os, hbx.tape, hbx.output, hbx.size, hbx.block⟩ : Below w2.heap.size w2 w3) hby hbx.size).mono b2.size)
      go_wp2_with fail
      go_ret
      exact ⟨rfl, b4⟩
  · have HZ := Lib.hid hZ
    clear hZ
    go_enter Try.func78, Try.ntmps78
    go_wp2_with fail
    rw [← HW.out]
    go_region_held3 (fun Q => Q.cell? ⟨w.heap.size, 0, none⟩ = some (.iface 80 Z) ∧ Q.cell? ⟨w.heap.size, 1, none⟩ = some (.slice A1 n1 c1) ∧ Q.cell? ⟨w.heap.size, 2, none⟩ = some (.slice A2 n2 c2))
      (first
        | exact ⟨a0, a1, a2⟩
        | exact ⟨(hby.cell (p := ⟨w.heap.size, 0, none⟩) (Nat.lt_of_lt_of_le K2.lt hbx.size)).trans ((hbx.cell (p := ⟨w.heap.size, 0, none⟩) K2.lt).trans a0), (hby.cell (p := ⟨w.heap.size, 1, none⟩) (Nat.lt_of_lt_of_le K2.lt hbx.size)).trans ((hbx.cell (p := ⟨w.heap.size, 1, none⟩) K2.lt).trans a1), (hby.cell (p := ⟨w.heap.size, 2, none⟩) (Nat.lt_of_lt_of_le K2.lt hbx.size)).trans ((hbx.cell (p := ⟨w.heap.size, 2, none⟩) K2.lt).trans a2)⟩
        | exact ⟨(hbx.cell (p := ⟨w.heap.size, 0, none⟩) K2.lt).trans a0, (hbx.cell (p := ⟨w.heap.size, 1, none⟩) K2.lt).trans a1, (hbx.cell (p := ⟨w.heap.size, 2, none⟩) K2.lt).trans a2⟩)
      (first
        | (have _hz := hbx.size; go_simp; go_at_call 77; refine (vertices_one _ _ _ _ _ _ _).mono ?_; rintro e w4 ⟨rfl, hby⟩)
        | (go_simp; go_at_call 78; refine (HZ.out _).mono ?_; rintro e w3 ⟨rfl, hbx⟩))
    all_goals
      have b4 : Below w.heap.size w w4 := b2.trans ((below_from (⟨hbx.os, hbx.tape, hbx.output, hbx.size, hbx.block⟩ : Below w2.heap.size w2 w3) hby hbx.size).mono b2.size)
      go_wp2_with fail
      go_ret
      exact ⟨ret_int (by omega), b4⟩
theorem vertices_any {w : World} {vs : List Vx} {X : Value} (h : PatV w vs X) (hl : vs.length ≤ 1000) :
    (vs.length = 1 ∧ ∃ B1 B2 k1 k2 d1 d2, X = .iface 78 (.agg #[.slice B1 k1 d1, .slice B2 k2 d2])) ∨ ∃ Z, X = .iface 80 Z ∧ ∀ W : World, Calls Try.prog 78 #[Z] W fun e w' => e = .returned (.int .i64 (vs.length : Int)) ∧ Below W.heap.size W w' := by
  induction h with
  | one v U V h1 h2 =>
    obtain ⟨A1, c1, rfl, _⟩ := h1
    obtain ⟨A2, c2, rfl, _⟩ := h2
    exact Or.inl ⟨rfl, _, _, _, _, _, _, rfl⟩
  | more us v Y U V hne hY h1 h2 ih =>
    obtain ⟨A1, c1, rfl, _⟩ := h1
    obtain ⟨A2, c2, rfl, _⟩ := h2
    have hlu : us.length + 1 ≤ 1000 := by simpa using hl
    refine Or.inr ⟨_, rfl, fun W => ?_⟩
    have := vertices_more Y us.length A1 A2 v.1.length v.2.length c1 c2 W (by omega) (ih (by omega))
    simpa using this
end Go.Proofs.Ytdpfnhkhojiddaa
namespace Go.Proofs.Ytdpfnhkhojiddaa
open Go.RowKit

theorem leastGo_le (m : Int) (l : List Int) : leastGo m l ≤ m ∧ ∀ x ∈ l, leastGo m l ≤ x := by
  induction l generalizing m with
  | nil => exact ⟨Int.le_refl _, fun x h => by cases h⟩
  | cons y r ih =>
    have h := ih (if y < m then y else m)
    rw [leastGo]
    refine ⟨?_, fun x hx => ?_⟩
    · refine Int.le_trans h.1 ?_
      split <;> omega
    · cases hx with
      | head => refine Int.le_trans h.1 ?_; split <;> omega
      | tail _ hx => exact h.2 x hx
theorem leastGo_mem (m : Int) (l : List Int) : leastGo m l = m ∨ leastGo m l ∈ l := by
  induction l generalizing m with
  | nil => exact Or.inl rfl
  | cons y r ih =>
    rw [leastGo]
    rcases ih (if y < m then y else m) with h | h
    · rw [h]
      split
      · exact Or.inr (List.mem_cons_self ..)
      · exact Or.inl rfl
    · exact Or.inr (List.mem_cons_of_mem _ h)
theorem least_is {xs : List Int} {k : Nat} (h : k < xs.length) : (angleAt xs k = leastGo (angleAt xs 0) xs) ↔ ∀ j, j < xs.length → angleAt xs k ≤ angleAt xs j := by
  constructor
  · intro e j hj
    rw [e]
    exact (leastGo_le _ _).2 _ (angleAt_mem hj)
  · intro ha
    have h1 := (leastGo_le (angleAt xs 0) xs).2 _ (angleAt_mem h)
    have h2 : angleAt xs k ≤ leastGo (angleAt xs 0) xs := by
      rcases leastGo_mem (angleAt xs 0) xs with e | e
      · rw [e]; exact ha 0 (by omega)
      · obtain ⟨j, hj, e2⟩ := List.getElem_of_mem e
        have := ha j hj
        have e3 : angleAt xs j = xs[j] := by unfold angleAt; simp [List.getD_eq_getElem?_getD, hj]
        rw [← e2, ← e3]
        exact this
    omega

theorem lessGo_spec {n : Nat} {x : Nat → Int} {i : Nat} (hi : i < n) : ∀ fuel j, j < n → dist n i j < fuel → (lessGo n x i (x i) fuel j = true ↔ ∀ m, m < n → dist n i m ≤ dist n i j → x i ≤ x m) := by
  intro fuel
  induction fuel with
  | zero => intro j _ h; omega
  | succ fuel ih =>
    intro j hj hd
    rw [lessGo]
    by_cases e : j = i
    · rw [if_pos e]
      simp only [true_iff]
      intro m hm hdm
      have : m = i := by
        subst e
        unfold dist at hdm
        revert hdm; repeat' split
        all_goals omega
      rw [this]
      exact Int.le_refl _
    · rw [if_neg e]
      have hdn := dist_nxt hi hj e
      by_cases hl : x j < x i
      · rw [if_pos hl]
        simp only [Bool.false_eq_true, false_iff]
        intro h
        have := h j hj (Nat.le_refl _)
        omega
      · rw [if_neg hl, ih _ (nxt_lt hj) (by omega)]
        constructor
        · intro h m hm hdm
          by_cases e2 : dist n i m = dist n i j
          · have : m = j := by
              unfold dist at e2
              revert e2; repeat' split
              all_goals omega
            rw [this]; omega
          · exact h m hm (by omega)
        · intro h m hm hdm
          exact h m hm (by omega)
theorem allowed_iff {n : Nat} {x : Nat → Int} {f : Nat → Nat} {i : Nat} (hi : i < n) : allowedB n x f i = true ↔ 4 ≤ n ∧ f i ≠ f (nxt n i) ∧ ∀ m, m < n → x i ≤ x m := by
  unfold allowedB
  by_cases h4 : n < 4
  · rw [if_pos h4]; simp; intro h; omega
  · rw [if_neg h4]
    by_cases hf : f i = f (nxt n i)
    · rw [if_pos hf]; simp [hf]
    · rw [if_neg hf, lessGo_spec hi n _ (nxt_lt hi) (by have := dist_start hi; omega)]
      constructor
      · intro h
        refine ⟨by omega, hf, fun m hm => ?_⟩
        by_cases e : m = i
        · rw [e]; exact Int.le_refl _
        · refine h m hm ?_
          unfold dist nxt; repeat' split
          all_goals omega
      · intro h m hm _
        exact h.2.2 m hm

theorem crimpsTo_small {n k : Nat} {x : Nat → Int} {f : Nat → Nat} (h : n < 4) : crimpsTo n x f k = [] := by
  unfold crimpsTo
  rw [List.filter_eq_nil_iff.2 (fun a _ => by unfold allowedB; rw [if_pos h]; simp)]
  rfl

theorem mod_nxt {n k : Nat} (h : k < n) : (k + 1) % n = nxt n k := by
  unfold nxt
  split
  · next e => rw [e, Nat.mod_self]
  · exact Nat.mod_eq_of_lt (by omega)

end Go.Proofs.Ytdpfnhkhojiddaa
