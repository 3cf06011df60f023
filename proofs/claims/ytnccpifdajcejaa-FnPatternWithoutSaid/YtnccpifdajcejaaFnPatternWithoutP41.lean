/- The reference's 'l1Folds', and whether angles or lengths fold by it: as the program's. No condition but sizes. The reference's text of a vertex; its l6pFolds. No condition but sizes. PatternFolds, the program's and the reference's. No condition but sizes. The reference's 'l1Text' and 'l1Power': the text of so many folds with a rank, a power of two. No condition but sizes. -/
import Derived.Test.YtnccpifdajcejaaFnPatternWithoutP40
import Derived.Test.YtnccpifdajcejaaText
namespace Go.Proofs.Ytnccpifdajcejaa
open Go.RowKit

section
variable {n : Nat} {x x' : Nat → Int} {f f' : Nat → Nat}
theorem allowedB_congr (hx : ∀ k, k < n → x k = x' k) (hf : ∀ k, k < n → f k = f' k) {i : Nat} (hi : i < n) : allowedB n x f i = allowedB n x' f' i := by
  rw [Bool.eq_iff_iff, allowed_iff hi, allowed_iff hi, hf i hi, hf _ (nxt_lt hi), hx i hi]
  constructor
  · rintro ⟨a, b, c⟩; exact ⟨a, b, fun m hm => by rw [← hx m hm]; exact c m hm⟩
  · rintro ⟨a, b, c⟩; exact ⟨a, b, fun m hm => by rw [hx m hm]; exact c m hm⟩
theorem firstC_congr (hx : ∀ k, k < n → x k = x' k) (hf : ∀ k, k < n → f k = f' k) : firstC n x f = firstC n x' f' := by
  unfold firstC
  rw [List.filter_congr (fun i hi => allowedB_congr hx hf (List.mem_range.1 hi))]
theorem crimpX_congr (hx : ∀ k, k < n → x k = x' k) (hn : 4 ≤ n) {i : Nat} (hi : i < n) {k : Nat} (hk : k < n - 2) : crimpX n x i k = crimpX n x' i k := by
  unfold crimpX
  rw [hx _ (prv_lt hi), hx _ (nxt_lt hi), hx _ hi, hx _ (sig_lt hn hi hk).1]
end
theorem foldsN_congr (g : Nat) : ∀ {n : Nat} {x x' : Nat → Int} {f f' : Nat → Nat}, (∀ k, k < n → x k = x' k) → (∀ k, k < n → f k = f' k) → foldsN g n x f = foldsN g n x' f' := by
  induction g with
  | zero => intro n x x' f f' _ _; rfl
  | succ g ih =>
    intro n x x' f f' hx hf
    rw [foldsN, foldsN, firstC_congr hx hf]
    cases h : firstC n x' f' with
    | none =>
      dsimp only
      by_cases h2 : n = 2
      · subst h2
        rw [hx 0 (by omega), hx 1 (by omega), hf 0 (by omega), hf 1 (by omega)]
      · simp [h2]
    | some i =>
      have hh := crimps_some h
      exact ih (fun k hk => crimpX_congr hx hh.2.2 hh.2.1 hk) (fun k hk => hf _ (sig_lt hh.2.2 hh.2.1 hk).1)

set_option maxHeartbeats 2000000 in
set_option maxRecDepth 100000 in
theorem spec_l1Folds (A : Option Addr) (cap : Nat) (xs : List Int) (s : ByteArray) (w : World) (h : Ints w A xs) (h2 : 2 ≤ xs.length) (hl : xs.length ≤ 10) (hcap : xs.length ≤ cap) (hcm : cap ≤ maxLen)
    (hs : s.size = xs.length) (hx : ∀ k, k < xs.length → -1000 ≤ angleAt xs k ∧ angleAt xs k ≤ 1000) :
    Calls Try.prog 90 #[.slice A xs.length cap, .string s] w fun e w' => e = .returned (.bool (ffB xs s)) ∧ Below w.heap.size w w' := by
  go_enter Try.func90, Try.ntmps90
  go_wp2_with fail
  refine (spec_l1Crimps A cap xs s w h (by omega) hs).mono ?_
  rintro e w0 ⟨v0, rfl, hown0, hb0⟩
  have HH := Lib.hid (show ffB xs s = foldsN 10 xs.length (angleAt xs) (byteAt s) from rfl)
  go_wp2_with fail
  go_loopg [0, 1, 5] 10 (fun g s0 s1 s5 wr => ∃ ys t A c B M, s0 = .slice A ys.length c ∧ s1 = .string t ∧ Ints wr A ys ∧ ys.length ≤ c ∧ c ≤ maxLen ∧ Hid (t.size = ys.length) ∧ 2 ≤ ys.length ∧ ys.length ≤ 10 ∧ ys.length ≤ 2 * g ∧
    Own wr B s5 (crimpsTo ys.length (angleAt ys) (byteAt t) ys.length) ∧ Below w.heap.size w wr ∧ (∀ k, k < ys.length → -M ≤ angleAt ys k ∧ angleAt ys k ≤ M) ∧ 0 ≤ M ∧ M * 3 ^ (ys.length / 2) ≤ 243000 ∧
    Hid (ffB xs s = foldsN g ys.length (angleAt ys) (byteAt t)))
  case atStart => exact ⟨xs, s, A, cap, _, 1000, rfl, rfl, h.below hb0, hcap, hcm, hs, h2, hl, by omega, hown0, hb0, hx, by omega, by
    have h3 : (3 : Int) ^ (xs.length / 2) ≤ 3 ^ 5 := by
      obtain h | h | h | h | h | h : xs.length / 2 = 0 ∨ xs.length / 2 = 1 ∨ xs.length / 2 = 2 ∨ xs.length / 2 = 3 ∨ xs.length / 2 = 4 ∨ xs.length / 2 = 5 := by omega
      all_goals rw [h]; decide
    omega, rfl⟩
  case round =>
    obtain ⟨ys, t, A, c, B, M, rfl, rfl, hI, hc1, hc2, HT, hy2, hy10, hg, hown, hbel, hM1, hM, hM2, H⟩ := hrel
    cases gk with
    | zero => omega
    | succ g =>
    cases hc : firstC ys.length (angleAt ys) (byteAt t) with
    | none =>
      rw [crimps_none hc] at hown
      have HC := Lib.hid hc
      clear hc
      obtain ⟨A5, c5, rfl, _, _, _⟩ := hown.form
      obtain ⟨b, off, _, rfl, _, _, _, _⟩ := hI.at_ (k := 0) (by omega)
      have a0 := angleAt_cell hI (k := 0) (by omega)
      have a1 := angleAt_cell hI (k := 1) (by omega)
      rw [Nat.add_zero] at a0
      have t0 : 0 < t.size := by have := HT.out; omega
      have t1 : 1 < t.size := by have := HT.out; omega
      have e0 := byteAt_eq t 0 t0
      have e1 := byteAt_eq t 1 t1
      by_cases z : ys.length = 2
      · have hz : ((ys.length : Int) == 2) = true := by simp; omega
        have Z := Lib.hid z
        clear z
        have l0 : 0 < ys.length := by omega
        have l1 : 1 < ys.length := by omega
        have l0' : (0 : Int) < (ys.length : Int) := by omega
        have l1' : (1 : Int) < (ys.length : Int) := by omega
        have t0' : (0 : Int) < (t.size : Int) := by omega
        have t1' : (1 : Int) < (t.size : Int) := by omega
        by_cases q1 : angleAt ys 0 = angleAt ys 1
        · have d1 : (angleAt ys 0 == angleAt ys 1) = true := by simp [q1]
          have Q1 := Lib.hid q1
          clear q1
          have HE := Lib.hid (And.intro e0 e1)
          clear e0 e1
          go_wp2_with fail
          go_quiet (fail)
          go_wp2_with fail
          go_ret
          exact ⟨ret_bool (by rw [H.out, foldsN, HC.out]; simp [Z.out, Q1.out, HE.out.1, HE.out.2, cast_beq]), below_drewN hbel _⟩
        · have d1 : (angleAt ys 0 == angleAt ys 1) = false := by simp [q1]
          have Q1 := Lib.hid q1
          clear q1 e0 e1
          go_wp2_with fail
          go_quiet (fail)
          go_wp2_with fail
          go_ret
          exact ⟨ret_bool (by rw [H.out, foldsN, HC.out]; simp [Q1.out]), below_drewN hbel _⟩
      · have hz : ((ys.length : Int) == 2) = false := by rw [beq_eq_false_iff_ne]; omega
        have Z := Lib.hid z
        clear z e0 e1
        go_wp2_with fail
        go_quiet (fail)
        go_wp2_with fail
        go_ret
        exact ⟨ret_bool (by rw [H.out, foldsN, HC.out]; simp [Z.out]), below_drewN hbel _⟩
    | some i =>
      obtain ⟨⟨r, hr⟩, hin, h4⟩ := crimps_some hc
      have HC := Lib.hid hc
      rw [hr] at hown
      clear hc hr
      obtain ⟨A5, c5, rfl, hI5, hcap5, _⟩ := hown.form
      obtain ⟨bb, off5, y, rfl, hbb, HY, hcell, _⟩ := hI5.at_ (k := 0) (by simp)
      have hy : y = (i : Int) := by have := HY.out; simp at this; exact this.symm
      subst hy
      rw [Nat.add_zero] at hcell
      rw [List.length_cons] at *
      clear hI5 hown HY
      have hpow : (3 : Int) ^ (ys.length / 2) = 3 * 3 ^ ((ys.length - 2) / 2) := by
        have : ys.length / 2 = (ys.length - 2) / 2 + 1 := by omega
        rw [this, Int.pow_succ]; omega
      have hpos : (1 : Int) ≤ 3 ^ (ys.length / 2) := by
        obtain h | h | h | h | h | h : ys.length / 2 = 0 ∨ ys.length / 2 = 1 ∨ ys.length / 2 = 2 ∨ ys.length / 2 = 3 ∨ ys.length / 2 = 4 ∨ ys.length / 2 = 5 := by omega
        all_goals rw [h]; decide
      have hMle : M ≤ 243000 := Int.le_trans (by simpa using Int.mul_le_mul_of_nonneg_left hpos hM) hM2
      have hpM : 3 * M * 3 ^ ((ys.length - 2) / 2) ≤ 243000 := by rw [hpow] at hM2; rw [Int.mul_comm 3 M, Int.mul_assoc]; exact hM2
      have HP := Lib.hid hpM
      clear hM2 hpow hpos hpM
      obtain ⟨b, off, _, rfl, _, _, _, _⟩ := hI.at_ (k := 0) (by omega)
      go_wp2_with fail
      refine (spec_l1Crimp_n b off c ys.length ys t i wr hI (Lib.hid rfl) h4 (by omega) hc1 hc2 HT hin (Lib.hid fun k hk => by have := hM1 k hk; omega)).mono ?_
      rintro e w1 ⟨v, ys', t', rfl, hown1, hcr, hb1⟩
      obtain ⟨A1, c1, rfl, hI1, hcc1, hcc2⟩ := hown1.form
      have hlen := hcr.len
      have hsz := hcr.size
      have hb1' := below_from hbel hb1 hbel.size
      have HCR := Lib.hid hcr
      have e2 : t'.size = ys'.length := by omega
      have E2 := Lib.hid e2
      have l2 : 2 ≤ ys'.length := by omega
      have l10 : ys'.length ≤ 10 := by omega
      have lg : ys'.length ≤ 2 * g := by omega
      have HLE := Lib.hid hlen
      clear hlen hsz hcr e2 hown1
      go_wp2_with fail
      refine (spec_l1Crimps A1 c1 ys' t' w1 hI1 (by omega) E2.out).mono ?_
      rintro e w2 ⟨v2, rfl, hown2, hb2⟩
      have hI2 := hI1.below hb2
      have hb2' := below_from hb1' hb2 hb1'.size
      go_wp2_with fail
      go_roundg g
      case measure => omega
      case rel =>
        have hlen := HLE.out
        have hcr := HCR.out
        refine ⟨ys', t', A1, c1, _, 3 * M, rfl, rfl, hI2, hcc1, hcc2, E2.out, l2, l10, lg, hown2, hb2', fun k hk => ?_, by omega, by rw [hlen]; exact HP.out, H.out.trans ?_⟩
        · rw [hcr.angle k (by omega)]
          exact crimpX_bd h4 hin hM1 hM k (by omega)
        · rw [foldsN, HC.out, hlen]
          exact foldsN_congr g (fun k hk => (hcr.angle k hk).symm) (fun k hk => (hcr.fold k hk).symm)

set_option maxHeartbeats 800000 in
theorem spec_VertexFolds (A : Option Addr) (cap : Nat) (xs : List Int) (s : ByteArray) (w : World) (h : Ints w A xs) (hl : xs.length ≤ maxLen) (hs : s.size ≤ maxLen) (hcap : xs.length ≤ cap) (hcm : cap ≤ maxLen) :
    Calls Try.prog 77 #[.slice A xs.length cap, .string s] w fun e w' => e = .returned (.bool (vfB xs s)) ∧ Below w.heap.size w w' := by
  cases hv : acB xs with
  | false =>
    have HV := Lib.hid hv; clear hv
    go_enter Try.func77, Try.ntmps77
    go_wp2_with fail
    refine (spec_AnglesCloses A cap xs w h hl).mono ?_
    rintro e w' ⟨rfl, rfl⟩
    rw [HV.out]
    go_wp2_with fail
    go_ret
    exact ⟨ret_bool (by unfold vfB; rw [HV.out]; rfl), Below.refl _ _⟩
  | true =>
    have hv2 := hv
    unfold acB at hv2
    rw [Bool.and_eq_true] at hv2
    obtain ⟨_, h2, h10, hx, _⟩ := avB_parts hv2.1
    have HV := Lib.hid hv; clear hv
    have HX := Lib.hid hx; clear hx hv2
    cases hf : fvB s.data.toList xs.length with
    | false =>
      have HF := Lib.hid hf; clear hf
      go_enter Try.func77, Try.ntmps77
      go_wp2_with fail
      refine (spec_AnglesCloses A cap xs w h hl).mono ?_
      rintro e w' ⟨rfl, rfl⟩
      rw [HV.out]
      go_wp2_with fail
      refine (spec_FoldsValid s xs.length w hs).mono ?_
      rintro e w' ⟨rfl, rfl⟩
      rw [HF.out]
      go_wp2_with fail
      go_ret
      exact ⟨ret_bool (by unfold vfB; rw [HV.out, HF.out]; rfl), Below.refl _ _⟩
    | true =>
      have hsz := fvB_size hf
      have HF := Lib.hid hf; clear hf
      have HS := Lib.hid hsz; clear hsz
      go_enter Try.func77, Try.ntmps77
      go_wp2_with fail
      refine (spec_AnglesCloses A cap xs w h hl).mono ?_
      rintro e w' ⟨rfl, rfl⟩
      rw [HV.out]
      go_wp2_with fail
      refine (spec_FoldsValid s xs.length w hs).mono ?_
      rintro e w' ⟨rfl, rfl⟩
      rw [HF.out]
      go_wp2_with fail
      refine (spec_l1Folds A cap xs s w h h2 h10 hcap hcm HS.out (fun k hk => by have := HX.out _ (angleAt_mem hk); omega)).mono ?_
      rintro e w2 ⟨rfl, hb2⟩
      go_wp2_with fail
      go_ret
      exact ⟨ret_bool (by unfold vfB; rw [HV.out, HF.out]; rfl), hb2⟩


end Go.Proofs.Ytnccpifdajcejaa
namespace Go.Proofs.Ytnccpifdajcejaa
open Go.RowKit

theorem picked_step {s : ByteArray} {cs : List Int} {k m : Nat} (h : k < cs.length) (hm : cs[k] = (m : Int)) (hs : m < s.size) : picked s (cs.take k) ++ s.extract m (m + 1) = picked s (cs.take (k + 1)) := by
  have e : s.extract m (m + 1) = ⟨[s[m]].toArray⟩ := by
    apply ByteArray.ext
    apply Array.ext'
    show (s.extract m (m + 1)).data.toList = [s[m]]
    rw [ByteArray.data_extract]
    simp
    have : s.data.toList.drop m = s[m] :: s.data.toList.drop (m + 1) := byte_drop hs
    rw [this]
    simp
  rw [e]
  unfold picked
  rw [pickL_take s cs h hm hs]
  exact ByteArray.mk_append_mk _ _

set_option maxHeartbeats 2000000 in
theorem spec_l6pText (A1 A2 : Option Addr) (n1 c1 c2 : Nat) (cs : List Int) (s : ByteArray) (w : World) (h : Ints w A2 cs) (hl : cs.length ≤ 100) (hx : ∀ c ∈ cs, 0 ≤ c ∧ c < s.size) (hs : s.size ≤ 1000) :
    Calls Try.prog 78 #[.agg #[.slice A1 n1 c1, .slice A2 cs.length c2], .string s] w fun e w' => e = .returned (.string (picked s cs)) ∧ Below w.heap.size w w' := by
  obtain ⟨w2, hw2⟩ : ∃ w2, w2 = w.alloc (.cells #[.slice A1 n1 c1, .slice A2 cs.length c2] 30) := ⟨_, rfl⟩
  have b2 : Below w.heap.size w w2 := by rw [hw2]; exact (Below.refl _ _).alloc (Nat.le_refl _) _
  have K2 : Blk w2 w.heap.size 30 #[.slice A1 n1 c1, .slice A2 cs.length c2] := by rw [hw2]; exact Blk.new w _ _
  have a1 := K2.cell 1
  have hI := h.below b2
  have HW := Lib.hid hw2
  have HX := Lib.hid hx
  have HB := Lib.hid b2
  clear hw2 hx b2 h
  go_enter Try.func78, Try.ntmps78
  go_wp2_with fail
  rw [← HW.out]
  go_loopg [5, 6] (cs.length + 1) (fun g s5 s6 wr => ∃ (k d : Nat) (t : ByteArray), k ≤ cs.length ∧ s6 = .int .i64 k ∧ s5 = .string t ∧ t.size = k ∧ cs.length - k < g ∧ w2.drewN d = wr ∧ Hid (t = picked s (cs.take k)))
  case atStart => exact ⟨0, 0, _, Nat.zero_le _, rfl, rfl, rfl, by omega, rfl, rfl⟩
  case round =>
    obtain ⟨k, d, t, hk, rfl, rfl, hts, hg, rfl, HT⟩ := hrel
    cases gk with
    | zero => omega
    | succ g =>
    by_cases hlt : k < cs.length
    · obtain ⟨m, hm⟩ : ∃ m : Nat, cs[k] = (m : Int) := ⟨cs[k].toNat, by have := HX.out cs[k] (List.getElem_mem hlt); omega⟩
      have hms : m < s.size := by have := HX.out cs[k] (List.getElem_mem hlt); omega
      obtain ⟨b, off, rfl, hb, hc⟩ := hI (by intro e; subst e; simp at hlt)
      have r1 := hc k cs[k] (List.getElem?_eq_getElem hlt)
      rw [hm] at r1
      have HP := Lib.hid (picked_step hlt hm hms)
      have k1 : (k : Int) < (cs.length : Int) := by omega
      have k0 : (0 : Int) ≤ (k : Int) := by omega
      have m0 : (0 : Int) ≤ (m : Int) := by omega
      have m1 : (m : Int) ≤ (m : Int) + 1 := by omega
      have m2 : (m : Int) + 1 ≤ (s.size : Int) := by omega
      have kw : IntKind.i64.wrap ((m : Int) + 1) = (m : Int) + 1 := IntWalk.i64_in _ (by omega)
      have hsz : (s.extract m (m + 1)).size = 1 := by rw [ByteArray.size_extract]; omega
      have hts2 : (t ++ s.extract m (m + 1)).size = k + 1 := by rw [ByteArray.size_append, hsz, hts]
      have b12 : ∀ W, (Op.stringOp .add t (s.extract m (m + 1))).run Try.prog W = .ok (.string (t ++ s.extract m (m + 1))) W := fun W => run_string_add_sum W _ _ (by rw [hsz, hts]; omega)
      have HTS := Lib.hid hts2
      clear hm hc hsz hts2 hI
      go_wp2_with fail
      go_quiet (fail)
      go_wp2_with fail
      go_roundg g
      case measure => omega
      case rel => exact ⟨k + 1, _, _, by omega, by go_num, rfl, HTS.out, by omega, rfl, by show _ = _; rw [HT.out, HP.out]⟩
    · obtain rfl : k = cs.length := by omega
      go_wp2_with fail
      go_ret
      exact ⟨by rw [HT.out, List.take_length]; rfl, below_drewN HB.out _⟩
set_option maxHeartbeats 2000000 in
theorem spec_l6pFolds (A : Option Addr) (cap : Nat) (vs : List Vx) (s : ByteArray) (w : World) (h : Verts w A vs) (hl : vs.length ≤ 1000) (hv : ∀ v ∈ vs, VOk s v) (hs : s.size ≤ 1000) :
    Calls Try.prog 59 #[.slice A vs.length cap, .string s] w fun e w' => e = .returned (.bool (vs.all (vfT s))) ∧ Below w.heap.size w w' := by
  have HV := Lib.hid hv
  clear hv
  go_enter Try.func59, Try.ntmps59
  go_wp2_with fail
  go_loopg [5] (vs.length + 1) (fun g s5 wr => ∃ (k : Nat), k ≤ vs.length ∧ s5 = .int .i64 k ∧ vs.length - k < g ∧ Hid (Below w.heap.size w wr) ∧ Hid (vs.all (vfT s) = (vs.drop k).all (vfT s)))
  case atStart => exact ⟨0, Nat.zero_le _, rfl, by omega, Below.refl _ _, rfl⟩
  case round =>
    obtain ⟨k, hk, rfl, hg, HB, HA⟩ := hrel
    cases gk with
    | zero => omega
    | succ g =>
    by_cases hlt : k < vs.length
    · obtain ⟨b, off, A1, c1, A2, c2, rfl, hb, r1, r2, i1, l1, m1, i2, l2, m2⟩ := (h.below HB.out).at_ hlt
      obtain ⟨n1, n2, hx⟩ := HV.out vs[k] (List.getElem_mem hlt)
      have k1 : (k : Int) < (vs.length : Int) := by omega
      have k0 : (0 : Int) ≤ (k : Int) := by omega
      obtain ⟨q, hq⟩ : ∃ q, q = picked s vs[k].2 := ⟨_, rfl⟩
      obtain ⟨y, hy⟩ : ∃ y, y = vfT s vs[k] := ⟨_, rfl⟩
      have hc1 : ∀ W : World, Below wr.heap.size wr W → Calls Try.prog 78 #[.agg #[.slice A1 vs[k].1.length c1, .slice A2 vs[k].2.length c2], .string s] W fun e w' => e = .returned (.string q) ∧ Below W.heap.size W w' := fun W hW => by
        rw [hq]; exact spec_l6pText A1 A2 _ c1 c2 vs[k].2 s W (i2.below hW) n2 hx hs
      have hc2 : ∀ W : World, Below wr.heap.size wr W → Calls Try.prog 77 #[.slice A1 vs[k].1.length c1, .string q] W fun e w' => e = .returned (.bool y) ∧ Below W.heap.size W w' := fun W hW => by
        rw [hy, hq]; exact spec_VertexFolds A1 c1 vs[k].1 (picked s vs[k].2) W (i1.below hW) (by unfold maxLen; omega) (by rw [picked_size]; unfold maxLen; omega) l1 m1
      have hstep : (vs.drop k).all (vfT s) = (y && (vs.drop (k + 1)).all (vfT s)) := by rw [List.drop_eq_getElem_cons hlt, List.all_cons, ← hy]
      have HC1 := Lib.hid hc1
      have HC2 := Lib.hid hc2
      have HS := Lib.hid hstep
      have hz := HB.out.size
      have c1' := (show wr.cell? ⟨b, off + k * 2, none⟩ = some (.slice A1 vs[k].1.length c1) ∧ wr.cell? ⟨b, off + k * 2 + 1, none⟩ = some (.slice A2 vs[k].2.length c2) from ⟨r1, r2⟩)
      have CC := Lib.hid c1'
      clear i1 i2 hx hq hy hc1 hc2 hstep c1' n1 n2
      go_wp2_with fail
      go_region_held3 (fun W => W.cell? ⟨b, off + k * 2, none⟩ = some (.slice A1 vs[k].1.length c1) ∧ W.cell? ⟨b, off + k * 2 + 1, none⟩ = some (.slice A2 vs[k].2.length c2))
        (first
          | exact CC.out
          | exact ⟨(hby.cell (p := ⟨b, off + k * 2, none⟩) (Nat.lt_of_lt_of_le hb hbx.size)).trans ((hbx.cell (p := ⟨b, off + k * 2, none⟩) hb).trans CC.out.1), (hby.cell (p := ⟨b, off + k * 2 + 1, none⟩) (Nat.lt_of_lt_of_le hb hbx.size)).trans ((hbx.cell (p := ⟨b, off + k * 2 + 1, none⟩) hb).trans CC.out.2)⟩
          | exact ⟨(hbx.cell (p := ⟨b, off + k * 2, none⟩) hb).trans CC.out.1, (hbx.cell (p := ⟨b, off + k * 2 + 1, none⟩) hb).trans CC.out.2⟩)
        (first
          | (go_simp; go_at_call 78; refine (HC1.out _ (below_drewN (Below.refl _ _) _)).mono ?_; rintro e w3 ⟨rfl, hbx⟩)
          | (go_simp; go_at_call 77; refine (HC2.out _ (below_from (below_drewN (Below.refl _ _) _) hbx (Nat.le_refl _))).mono ?_; rintro e w4 ⟨rfl, hby⟩))
      all_goals
        have b4 : Below w.heap.size w w4 := HB.out.trans ((below_from (⟨hbx.os, hbx.tape, hbx.output, hbx.size, hbx.block⟩ : Below wr.heap.size wr w3) hby hbx.size).mono hz)
        have B4 := Lib.hid b4
        clear hbx hby b4
        cases y with
        | false =>
          go_wp2_with fail
          go_ret
          exact ⟨ret_bool (by rw [HA.out, HS.out]; rfl), B4.out⟩
        | true =>
          go_wp2_with fail
          go_roundg g
          case measure => omega
          case rel => exact ⟨k + 1, by omega, by go_num, by omega, B4, HA.out.trans (HS.out.trans (Bool.true_and _))⟩
    · obtain rfl : k = vs.length := by omega
      go_wp2_with fail
      go_ret
      exact ⟨ret_bool (by rw [HA.out, List.drop_length]; rfl), HB.out⟩
end Go.Proofs.Ytnccpifdajcejaa
namespace Go.Proofs.Ytnccpifdajcejaa
open Go.RowKit

/-- PatternFolds -/
def pfB (vs : List Vx) (s : ByteArray) : Bool := patB vs && (fvB s.data.toList (ncr vs) && vs.all (vfT s))
theorem fvB_neg (l : List UInt8) : fvB l (-1) = false := by
  unfold fvB
  have : decide ((l.length : Int) = -1) = false := by simp
  rw [this]; rfl
theorem pat_ok {vs : List Vx} {s : ByteArray} (hp : patB vs = true) (hf : fvB s.data.toList (ncr vs) = true) : s.size ≤ 10 ∧ ∀ v ∈ vs, VOk s v := by
  obtain ⟨_, _, hall, _, n0, n10⟩ := patB_parts hp
  obtain ⟨n, hn⟩ : ∃ n : Nat, ncr vs = (n : Int) := ⟨(ncr vs).toNat, by omega⟩
  have hsz := fvB_size (n := n) (by rw [← hn]; exact hf)
  refine ⟨by omega, fun v hv => ?_⟩
  rw [List.all_eq_true] at hall
  obtain ⟨_, h1, h2, _, h3⟩ := vtxB_bd (hall v hv)
  have hle := (ncGo_le 0 vs).2 v hv
  refine ⟨by omega, by omega, fun c hc => ⟨(h3 c hc).1, ?_⟩⟩
  have h4 := hle c hc
  have h5 : ncGo 0 vs = ncr vs := rfl
  omega
theorem all_cnt (t : Vx → Bool) (vs : List Vx) : ((cntX t vs : Int) == (vs.length : Int)) = vs.all t := by
  cases h : vs.all t with
  | true =>
    rw [List.all_eq_true] at h
    have : cntX t vs = vs.length := by unfold cntX; rw [List.filter_eq_self.2 h]
    rw [this]; simp
  | false =>
    rw [beq_eq_false_iff_ne]
    intro e
    have e2 : (vs.filter t).length = vs.length := by unfold cntX at e; omega
    have := (List.filter_eq_self (p := t) (l := vs)).1 ((List.filter_sublist).eq_of_length e2)
    rw [← List.all_eq_true] at this
    rw [this] at h; cases h

set_option maxHeartbeats 2000000 in
theorem impl_PatternFolds (A : Option Addr) (cap : Nat) (vs : List Vx) (s : ByteArray) (w : World) (h : Verts w A vs) (hl : vs.length ≤ maxLen) (hs : s.size ≤ maxLen) (hcap : vs.length ≤ cap) (hcm : cap ≤ maxLen) :
    Calls Try.prog 34 #[.slice A vs.length cap, .string s] w fun e w' => e = .returned (.bool (pfB vs s)) ∧ Below w.heap.size w w' := by
  obtain ⟨c, hc⟩ : ∃ c, c = pcI vs := ⟨_, rfl⟩
  obtain ⟨f, hf⟩ : ∃ f, f = fvB s.data.toList c := ⟨_, rfl⟩
  have HC := Lib.hid hc
  have HF := Lib.hid hf
  clear hc hf
  go_enter Try.func34, Try.ntmps34
  go_wp2_with fail
  refine (impl_PatternCreases A cap vs w h hl).mono ?_
  rintro e w1 ⟨rfl, hb1⟩
  rw [← HC.out]
  go_wp2_with fail
  refine (impl_FoldsValid s c w1 hs).mono ?_
  rintro e w' ⟨rfl, rfl⟩
  rw [← HF.out]
  cases f with
  | false =>
    have hfin : pfB vs s = false := by
      unfold pfB
      cases hp : patB vs with
      | false => rfl
      | true =>
        have h1 := HF.out
        rw [HC.out] at h1
        unfold pcI at h1
        rw [hp, if_pos rfl] at h1
        rw [← h1]; rfl
    have HFin := Lib.hid hfin
    clear hfin
    go_wp2_with fail
    go_ret
    exact ⟨ret_bool HFin.out.symm, hb1⟩
  | true =>
    have hp : patB vs = true := by
      cases hp : patB vs with
      | true => rfl
      | false =>
        have h1 := HF.out
        rw [HC.out] at h1
        unfold pcI at h1
        rw [hp] at h1
        have h2 : fvB s.data.toList (-1) = true := h1.symm
        rw [fvB_neg] at h2; cases h2
    have hfv : fvB s.data.toList (ncr vs) = true := by
      have h1 := HF.out
      rw [HC.out] at h1
      unfold pcI at h1
      rw [hp, if_pos rfl] at h1
      exact h1.symm
    obtain ⟨hs10, hok⟩ := pat_ok hp hfv
    obtain ⟨h1, h3, _⟩ := patB_parts hp
    have hfin : pfB vs s = vs.all (vfT s) := by unfold pfB; rw [hp, hfv]; rfl
    obtain ⟨us, v, hus⟩ : ∃ us v, vs = us ++ [v] := ⟨vs.dropLast, vs.getLast (by intro e; rw [e] at h1; simp at h1), (List.dropLast_concat_getLast _).symm⟩
    have hlen : vs.length = us.length + 1 := by rw [hus]; simp
    obtain ⟨a, ha⟩ : ∃ a, a = cntX (vfT s) vs := ⟨_, rfl⟩
    have hac := all_cnt (vfT s) vs
    rw [← ha] at hac
    have hpo : ∀ W : World, Below w.heap.size w W → Calls Try.prog 62 #[.slice A vs.length cap] W fun e w' => ∃ X, e = .returned X ∧ PatV w' vs X ∧ Below W.heap.size W w' := fun W hW => by
      have := impl_patternOf us.length A cap us v W rfl (by omega) (by rw [← hus]; exact h.below hW) (by omega) hcm
      rw [← hus, ← hlen] at this
      exact this
    have HPO := Lib.hid hpo
    have HFin := Lib.hid hfin
    have HA := Lib.hid ha
    have HAC := Lib.hid hac
    have HOK := Lib.hid hok
    clear hp hfv hok hfin hus hlen ha hac hpo HC HF
    go_wp2_with fail
    refine (HPO.out w1 hb1).mono ?_
    rintro e w2 ⟨X, rfl, hX, hb2⟩
    have b2 := below_from hb1 hb2 hb1.size
    have hcv := countF_any s vs X w2 hX (by omega) HOK.out (by omega)
    rw [← HA.out] at hcv
    have HCV := Lib.hid hcv
    clear hb1 hb2 hcv HPO
    rcases vertices_any hX (by omega) with ⟨hv1, B1, B2, k1, k2, d1, d2, rfl⟩ | ⟨Z, rfl, hZ⟩
    · clear hX
      go_wp2_with fail
      refine (HCV.out w2 (Below.refl _ _)).mono ?_
      rintro e w3 ⟨rfl, hb3⟩
      have b3 := below_from b2 hb3 b2.size
      clear b2 hb3
      rw [hv1] at HAC
      go_wp2_with fail
      refine (vertices_one B1 B2 k1 k2 d1 d2 w3).mono ?_
      rintro e w4 ⟨rfl, hb4⟩
      have b4 := below_from b3 hb4 b3.size
      clear b3 hb4
      go_wp2_with fail
      go_ret
      exact ⟨ret_bool (by rw [HFin.out, ← HAC.out]; rfl), b4⟩
    · have HZ := Lib.hid hZ
      clear hX hZ
      go_wp2_with fail
      refine (HCV.out w2 (Below.refl _ _)).mono ?_
      rintro e w3 ⟨rfl, hb3⟩
      have b3 := below_from b2 hb3 b2.size
      clear b2 hb3
      go_wp2_with fail
      refine (HZ.out w3).mono ?_
      rintro e w4 ⟨rfl, hb4⟩
      have b4 := below_from b3 hb4 b3.size
      clear b3 hb4
      go_wp2_with fail
      go_ret
      exact ⟨ret_bool (by rw [HFin.out, ← HAC.out]), b4⟩
set_option maxHeartbeats 2000000 in
theorem spec_PatternFolds (A : Option Addr) (cap : Nat) (vs : List Vx) (s : ByteArray) (w : World) (h : Verts w A vs) (hl : vs.length ≤ maxLen) (hs : s.size ≤ maxLen) :
    Calls Try.prog 41 #[.slice A vs.length cap, .string s] w fun e w' => e = .returned (.bool (pfB vs s)) ∧ Below w.heap.size w w' := by
  go_enter Try.func41, Try.ntmps41
  go_wp2_with fail
  refine (spec_PatternValid A cap vs w h hl).mono ?_
  rintro e w1 ⟨rfl, hb1⟩
  cases hp : patB vs with
  | false =>
    have hfin : pfB vs s = false := by unfold pfB; rw [hp]; rfl
    have HFin := Lib.hid hfin
    clear hp hfin
    go_wp2_with fail
    go_ret
    exact ⟨ret_bool HFin.out.symm, hb1⟩
  | true =>
    obtain ⟨h1, h3, hall, _, _, _⟩ := patB_parts hp
    have hvx : ∀ v ∈ vs, v.2.length ≤ 1000000 ∧ ∀ x ∈ v.2, 0 ≤ x ∧ x ≤ 9 := fun v hv => by
      rw [List.all_eq_true] at hall
      have := vtxB_bd (hall v hv)
      exact ⟨by omega, this.2.2.2.2⟩
    have hcr := fun W (hW : Below w.heap.size w W) => spec_l6pCreases A cap vs W (h.below hW) (by omega) hvx
    obtain ⟨f, hf⟩ : ∃ f, f = fvB s.data.toList (ncr vs) := ⟨_, rfl⟩
    have HCR := Lib.hid hcr
    have HF := Lib.hid hf
    have HP := Lib.hid hp
    have H3 := Lib.hid h3
    clear hcr hvx hall hf hp h1 h3
    go_wp2_with fail
    refine (HCR.out w1 hb1).mono ?_
    rintro e w' ⟨rfl, rfl⟩
    go_wp2_with fail
    refine (spec_FoldsValid s (ncr vs) w1 hs).mono ?_
    rintro e w' ⟨rfl, rfl⟩
    rw [← HF.out]
    cases f with
    | false =>
      have hfin : pfB vs s = false := by unfold pfB; rw [HP.out, ← HF.out]; rfl
      have HFin := Lib.hid hfin
      clear hfin
      go_wp2_with fail
      go_ret
      exact ⟨ret_bool HFin.out.symm, hb1⟩
    | true =>
      have hfin : pfB vs s = vs.all (vfT s) := by unfold pfB; rw [HP.out, ← HF.out]; rfl
      obtain ⟨hs10, hok⟩ := pat_ok HP.out HF.out.symm
      have HFin := Lib.hid hfin
      have hcall := spec_l6pFolds A cap vs s w1 (h.below hb1) (by have := H3.out; omega) hok (by omega)
      rw [← HFin.out] at hcall
      have HCALL := Lib.hid hcall
      clear hfin hok hcall
      go_wp2_with fail
      refine HCALL.out.mono ?_
      rintro e w2 ⟨rfl, hb2⟩
      have b2 := below_from hb1 hb2 hb1.size
      clear hb1 hb2
      go_wp2_with fail
      go_ret
      exact ⟨rfl, b2⟩
end Go.Proofs.Ytnccpifdajcejaa
namespace Go.Proofs.Ytnccpifdajcejaa
open Go.RowKit

/-- the letter of a bit -/
def bitL (k i : Nat) : UInt8 := if (k / 2 ^ i) % 2 = 0 then 77 else 86
def txtL : Nat → Nat → List UInt8
  | 0, _ => []
  | i + 1, k => bitL k i :: txtL i k
def txt (n k : Nat) : ByteArray := ⟨(txtL n k).toArray⟩
theorem txtL_len (n k : Nat) : (txtL n k).length = n := by
  induction n with
  | zero => rfl
  | succ n ih => simp [txtL, ih]
theorem txt_size (n k : Nat) : (txt n k).size = n := by simp [txt, ByteArray.size, txtL_len]
theorem txt_succ (i k : Nat) : ByteArray.mk #[bitL k i] ++ txt i k = txt (i + 1) k := ByteArray.mk_append_mk [bitL k i] (txtL i k)
theorem txtL_get (n k i : Nat) (h : i < n) : (txtL n k)[i]? = some (bitL k (n - 1 - i)) := by
  induction n generalizing i with
  | zero => omega
  | succ n ih =>
    cases i with
    | zero => simp [txtL]
    | succ i =>
      rw [txtL, List.getElem?_cons_succ, ih i (by omega)]
      congr 2; omega

set_option maxHeartbeats 1000000 in
theorem spec_l1Text (n k : Nat) (w : World) (hn : n ≤ 100) (hk : k ≤ 1000000000000) :
    Calls Try.prog 60 #[.int .i64 n, .int .i64 k] w fun e w' => e = .returned (.string (txt n k)) ∧ w = w' := by
  go_enter Try.func60, Try.ntmps60
  go_wp2_with fail
  go_loop [1, 5, 6] (fun s1 s5 s6 => ∃ (i r : Nat) (t : ByteArray), i ≤ n ∧ s6 = .int .i64 i ∧ s1 = .int .i64 r ∧ s5 = .string t ∧ r ≤ k ∧ t.size ≤ 100 ∧ Hid (t.size = i) ∧ Hid (t = txt i k) ∧ Hid (r = k / 2 ^ i)) (fun _ _ s6 => n - (intOf s6).toNat)
  case atStart => exact ⟨0, k, _, Nat.zero_le _, rfl, rfl, rfl, Nat.le_refl _, by decide, rfl, rfl, by show k = k / 2 ^ 0; simp⟩
  case round =>
    obtain ⟨i, r, t, hi, rfl, rfl, rfl, hr, hts, HT, HE, HR⟩ := hrel
    have hrn : Hid (r / 2 = k / 2 ^ (i + 1)) := by show _ = _; rw [HR.out, Nat.pow_succ, Nat.div_div_eq_div_mul]
    by_cases hlt : i < n
    · have h63 : (1 : Nat) + t.size ≤ 9223372036854775807 := by omega
      by_cases q : r % 2 = 0
      · have d1 : (((r : Int) % 2) == 0) = true := by simp; omega
        have hb : bitL k i = 77 := by unfold bitL; rw [← HR.out, if_pos q]
        have HB := Lib.hid hb
        have b12 : ∀ W, (Op.stringOp .add (ByteArray.mk #[77]) t).run Try.prog W = .ok (.string (ByteArray.mk #[77] ++ t)) W := fun W => run_string_add_sum W _ _ h63
        clear q hb h63
        go_wp2_with fail
        go_round
        case rel => exact ⟨i + 1, r / 2, _, by omega, by go_num, by go_num, rfl, by omega, by rw [ByteArray.size_append]; have := HT.out; show 1 + t.size ≤ 100; omega, by show _ = _; rw [ByteArray.size_append, HT.out]; show 1 + i = i + 1; omega, by show _ = _; rw [HE.out, ← txt_succ, HB.out], hrn⟩
        case measure => simp [intOf]; omega
      · have d1 : (((r : Int) % 2) == 0) = false := by rw [beq_eq_false_iff_ne]; omega
        have hb : bitL k i = 86 := by unfold bitL; rw [← HR.out, if_neg q]
        have HB := Lib.hid hb
        have b12 : ∀ W, (Op.stringOp .add (ByteArray.mk #[86]) t).run Try.prog W = .ok (.string (ByteArray.mk #[86] ++ t)) W := fun W => run_string_add_sum W _ _ h63
        clear q hb h63
        go_wp2_with fail
        go_round
        case rel => exact ⟨i + 1, r / 2, _, by omega, by go_num, by go_num, rfl, by omega, by rw [ByteArray.size_append]; have := HT.out; show 1 + t.size ≤ 100; omega, by show _ = _; rw [ByteArray.size_append, HT.out]; show 1 + i = i + 1; omega, by show _ = _; rw [HE.out, ← txt_succ, HB.out], hrn⟩
        case measure => simp [intOf]; omega
    · obtain rfl : i = n := by omega
      go_wp2_with fail
      go_ret
      exact ⟨by rw [← HE.out]; rfl, rfl⟩

set_option maxHeartbeats 400000 in
theorem spec_l1Power (n : Nat) (w : World) (hn : n ≤ 40) :
    Calls Try.prog 58 #[.int .i64 n] w fun e w' => e = .returned (.int .i64 ((2 ^ n : Nat) : Int)) ∧ w = w' := by
  go_enter Try.func58, Try.ntmps58
  go_wp2_with fail
  go_loop [3, 4] (fun s3 s4 => ∃ (i p : Nat), i ≤ n ∧ s4 = .int .i64 i ∧ s3 = .int .i64 p ∧ p ≤ 1099511627776 ∧ Hid (p = 2 ^ i)) (fun _ s4 => n - (intOf s4).toNat)
  case atStart => exact ⟨0, 1, Nat.zero_le _, rfl, rfl, by omega, rfl⟩
  case round =>
    obtain ⟨i, p, hi, rfl, rfl, hp, HP⟩ := hrel
    by_cases hlt : i < n
    · have hp2 : p * 2 ≤ 1099511627776 := by
        have h1 : p * 2 = 2 ^ (i + 1) := by rw [HP.out, Nat.pow_succ]
        have h2 : 2 ^ (i + 1) ≤ 2 ^ 40 := Nat.pow_le_pow_right (by omega) (by omega)
        have h3 : 2 ^ 40 = 1099511627776 := by decide
        omega
      go_wp2_with fail
      go_round
      case rel => exact ⟨i + 1, p * 2, by omega, by go_num, by go_num, hp2, by show _ = _; rw [HP.out, Nat.pow_succ]⟩
      case measure => simp [intOf]; omega
    · obtain rfl : i = n := by omega
      go_wp2_with fail
      go_ret
      exact ⟨ret_int (by rw [HP.out]; simp), rfl⟩

end Go.Proofs.Ytnccpifdajcejaa
