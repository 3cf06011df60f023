/- The reference's text of a vertex; its l6pFolds. No condition but sizes. -/
import Derived.Test.YtnccpifdajcejaaPatH
import Derived.Test.YtnccpifdajcejaaSpecF
namespace Go.Proofs.Ytnccpifdajcejaa
open Go.RowKit

theorem picked_step {s : ByteArray} {cs : List Int} {k m : Nat} (h : k < cs.length) (hm : cs[k] = (m : Int)) (hs : m < s.size) : picked s (cs.take k) ++ s.extract m (m + 1) = picked s (cs.take (k + 1)) := by
  have e : s.extract m (m + 1) = ⟨[s[m]].toArray⟩ := by
    apply ByteArray.ext
    apply Array.ext'
    show (s.extract m (m + 1)).data.toList = [s[m]]
    rw [ByteArray.data_extract]
    simp
    have : s.data.toList.drop m = s[m] :: s.data.toList.drop (m + 1) := byte_drop hs
    rw [this]
    simp
  rw [e]
  unfold picked
  rw [pickL_take s cs h hm hs]
  exact ByteArray.mk_append_mk _ _

set_option maxHeartbeats 2000000 in
theorem spec_l6pText (A1 A2 : Option Addr) (n1 c1 c2 : Nat) (cs : List Int) (s : ByteArray) (w : World) (h : Ints w A2 cs) (hl : cs.length ≤ 100) (hx : ∀ c ∈ cs, 0 ≤ c ∧ c < s.size) (hs : s.size ≤ 1000) :
    Calls Try.prog 78 #[.agg #[.slice A1 n1 c1, .slice A2 cs.length c2], .string s] w fun e w' => e = .returned (.string (picked s cs)) ∧ Below w.heap.size w w' := by
  obtain ⟨w2, hw2⟩ : ∃ w2, w2 = w.alloc (.cells #[.slice A1 n1 c1, .slice A2 cs.length c2] 30) := ⟨_, rfl⟩
  have b2 : Below w.heap.size w w2 := by rw [hw2]; exact (Below.refl _ _).alloc (Nat.le_refl _) _
  have K2 : Blk w2 w.heap.size 30 #[.slice A1 n1 c1, .slice A2 cs.length c2] := by rw [hw2]; exact Blk.new w _ _
  have a1 := K2.cell 1
  have hI := h.below b2
  have HW := Lib.hid hw2
  have HX := Lib.hid hx
  have HB := Lib.hid b2
  clear hw2 hx b2 h
  go_enter Try.func78, Try.ntmps78
  go_wp2_with fail
  rw [← HW.out]
  go_loopg [5, 6] (cs.length + 1) (fun g s5 s6 wr => ∃ (k d : Nat) (t : ByteArray), k ≤ cs.length ∧ s6 = .int .i64 k ∧ s5 = .string t ∧ t.size = k ∧ cs.length - k < g ∧ w2.drewN d = wr ∧ Hid (t = picked s (cs.take k)))
  case atStart => exact ⟨0, 0, _, Nat.zero_le _, rfl, rfl, rfl, by omega, rfl, rfl⟩
  case round =>
    obtain ⟨k, d, t, hk, rfl, rfl, hts, hg, rfl, HT⟩ := hrel
    cases gk with
    | zero => omega
    | succ g =>
    by_cases hlt : k < cs.length
    · obtain ⟨m, hm⟩ : ∃ m : Nat, cs[k] = (m : Int) := ⟨cs[k].toNat, by have := HX.out cs[k] (List.getElem_mem hlt); omega⟩
      have hms : m < s.size := by have := HX.out cs[k] (List.getElem_mem hlt); omega
      obtain ⟨b, off, rfl, hb, hc⟩ := hI (by intro e; subst e; simp at hlt)
      have r1 := hc k cs[k] (List.getElem?_eq_getElem hlt)
      rw [hm] at r1
      have HP := Lib.hid (picked_step hlt hm hms)
      have k1 : (k : Int) < (cs.length : Int) := by omega
      have k0 : (0 : Int) ≤ (k : Int) := by omega
      have m0 : (0 : Int) ≤ (m : Int) := by omega
      have m1 : (m : Int) ≤ (m : Int) + 1 := by omega
      have m2 : (m : Int) + 1 ≤ (s.size : Int) := by omega
      have kw : IntKind.i64.wrap ((m : Int) + 1) = (m : Int) + 1 := IntWalk.i64_in _ (by omega)
      have hsz : (s.extract m (m + 1)).size = 1 := by rw [ByteArray.size_extract]; omega
      have hts2 : (t ++ s.extract m (m + 1)).size = k + 1 := by rw [ByteArray.size_append, hsz, hts]
      have b12 : ∀ W, (Op.stringOp .add t (s.extract m (m + 1))).run Try.prog W = .ok (.string (t ++ s.extract m (m + 1))) W := fun W => run_string_add_sum W _ _ (by rw [hsz, hts]; omega)
      have HTS := Lib.hid hts2
      clear hm hc hsz hts2 hI
      go_wp2_with fail
      go_quiet (fail)
      go_wp2_with fail
      go_roundg g
      case measure => omega
      case rel => exact ⟨k + 1, _, _, by omega, by go_num, rfl, HTS.out, by omega, rfl, by show _ = _; rw [HT.out, HP.out]⟩
    · obtain rfl : k = cs.length := by omega
      go_wp2_with fail
      go_ret
      exact ⟨by rw [HT.out, List.take_length]; rfl, below_drewN HB.out _⟩
set_option maxHeartbeats 2000000 in
theorem spec_l6pFolds (A : Option Addr) (cap : Nat) (vs : List Vx) (s : ByteArray) (w : World) (h : Verts w A vs) (hl : vs.length ≤ 1000) (hv : ∀ v ∈ vs, VOk s v) (hs : s.size ≤ 1000) :
    Calls Try.prog 59 #[.slice A vs.length cap, .string s] w fun e w' => e = .returned (.bool (vs.all (vfT s))) ∧ Below w.heap.size w w' := by
  have HV := Lib.hid hv
  clear hv
  go_enter Try.func59, Try.ntmps59
  go_wp2_with fail
  go_loopg [5] (vs.length + 1) (fun g s5 wr => ∃ (k : Nat), k ≤ vs.length ∧ s5 = .int .i64 k ∧ vs.length - k < g ∧ Hid (Below w.heap.size w wr) ∧ Hid (vs.all (vfT s) = (vs.drop k).all (vfT s)))
  case atStart => exact ⟨0, Nat.zero_le _, rfl, by omega, Below.refl _ _, rfl⟩
  case round =>
    obtain ⟨k, hk, rfl, hg, HB, HA⟩ := hrel
    cases gk with
    | zero => omega
    | succ g =>
    by_cases hlt : k < vs.length
    · obtain ⟨b, off, A1, c1, A2, c2, rfl, hb, r1, r2, i1, l1, m1, i2, l2, m2⟩ := (h.below HB.out).at_ hlt
      obtain ⟨n1, n2, hx⟩ := HV.out vs[k] (List.getElem_mem hlt)
      have k1 : (k : Int) < (vs.length : Int) := by omega
      have k0 : (0 : Int) ≤ (k : Int) := by omega
      obtain ⟨q, hq⟩ : ∃ q, q = picked s vs[k].2 := ⟨_, rfl⟩
      obtain ⟨y, hy⟩ : ∃ y, y = vfT s vs[k] := ⟨_, rfl⟩
      have hc1 : ∀ W : World, Below wr.heap.size wr W → Calls Try.prog 78 #[.agg #[.slice A1 vs[k].1.length c1, .slice A2 vs[k].2.length c2], .string s] W fun e w' => e = .returned (.string q) ∧ Below W.heap.size W w' := fun W hW => by
        rw [hq]; exact spec_l6pText A1 A2 _ c1 c2 vs[k].2 s W (i2.below hW) n2 hx hs
      have hc2 : ∀ W : World, Below wr.heap.size wr W → Calls Try.prog 77 #[.slice A1 vs[k].1.length c1, .string q] W fun e w' => e = .returned (.bool y) ∧ Below W.heap.size W w' := fun W hW => by
        rw [hy, hq]; exact spec_VertexFolds A1 c1 vs[k].1 (picked s vs[k].2) W (i1.below hW) (by unfold maxLen; omega) (by rw [picked_size]; unfold maxLen; omega) l1 m1
      have hstep : (vs.drop k).all (vfT s) = (y && (vs.drop (k + 1)).all (vfT s)) := by rw [List.drop_eq_getElem_cons hlt, List.all_cons, ← hy]
      have HC1 := Lib.hid hc1
      have HC2 := Lib.hid hc2
      have HS := Lib.hid hstep
      have hz := HB.out.size
      have c1' := (show wr.cell? ⟨b, off + k * 2, none⟩ = some (.slice A1 vs[k].1.length c1) ∧ wr.cell? ⟨b, off + k * 2 + 1, none⟩ = some (.slice A2 vs[k].2.length c2) from ⟨r1, r2⟩)
      have CC := Lib.hid c1'
      clear i1 i2 hx hq hy hc1 hc2 hstep c1' n1 n2
      go_wp2_with fail
      go_region_held3 (fun W => W.cell? ⟨b, off + k * 2, none⟩ = some (.slice A1 vs[k].1.length c1) ∧ W.cell? ⟨b, off + k * 2 + 1, none⟩ = some (.slice A2 vs[k].2.length c2))
        (first
          | exact CC.out
          | exact ⟨(hby.cell (p := ⟨b, off + k * 2, none⟩) (Nat.lt_of_lt_of_le hb hbx.size)).trans ((hbx.cell (p := ⟨b, off + k * 2, none⟩) hb).trans CC.out.1), (hby.cell (p := ⟨b, off + k * 2 + 1, none⟩) (Nat.lt_of_lt_of_le hb hbx.size)).trans ((hbx.cell (p := ⟨b, off + k * 2 + 1, none⟩) hb).trans CC.out.2)⟩
          | exact ⟨(hbx.cell (p := ⟨b, off + k * 2, none⟩) hb).trans CC.out.1, (hbx.cell (p := ⟨b, off + k * 2 + 1, none⟩) hb).trans CC.out.2⟩)
        (first
          | (go_simp; go_at_call 78; refine (HC1.out _ (below_drewN (Below.refl _ _) _)).mono ?_; rintro e w3 ⟨rfl, hbx⟩)
          | (go_simp; go_at_call 77; refine (HC2.out _ (below_from (below_drewN (Below.refl _ _) _) hbx (Nat.le_refl _))).mono ?_; rintro e w4 ⟨rfl, hby⟩))
      all_goals
        have b4 : Below w.heap.size w w4 := HB.out.trans ((below_from (⟨hbx.os, hbx.tape, hbx.output, hbx.size, hbx.block⟩ : Below wr.heap.size wr w3) hby hbx.size).mono hz)
        have B4 := Lib.hid b4
        clear hbx hby b4
        cases y with
        | false =>
          go_wp2_with fail
          go_ret
          exact ⟨ret_bool (by rw [HA.out, HS.out]; rfl), B4.out⟩
        | true =>
          go_wp2_with fail
          go_roundg g
          case measure => omega
          case rel => exact ⟨k + 1, by omega, by go_num, by omega, B4, HA.out.trans (HS.out.trans (Bool.true_and _))⟩
    · obtain rfl : k = vs.length := by omega
      go_wp2_with fail
      go_ret
      exact ⟨ret_bool (by rw [HA.out, List.drop_length]; rfl), HB.out⟩
end Go.Proofs.Ytnccpifdajcejaa
