/- A pattern without one of its vertices: it is a pattern, and what is left of folds folds it. No program, no condition. The law on patterns with a vertex left out: the walk of the law itself. No condition but sizes. -/
import Derived.Test.YtnccpifdajcejaaFnPatternWithoutP52
import Derived.Test.YtnccpifdajcejaaFnPatternWithoutP46
import Derived.Test.YtnccpifdajcejaaFnPatternWithoutP47
import Derived.Test.YtnccpifdajcejaaFnPatternWithoutP48
import Derived.Test.YtnccpifdajcejaaFnPatternWithoutP50
import Derived.Test.YtnccpifdajcejaaFnPatternWithoutP51
namespace Go.Proofs.Ytnccpifdajcejaa

theorem numW_mono (ws : List Vx) {j k : Nat} (h : j ≤ k) : numW ws j ≤ numW ws k := by
  induction k with
  | zero => have : j = 0 := by omega
            subst this; exact Nat.le_refl _
  | succ k ih =>
    rcases Nat.lt_or_ge j (k + 1) with h1 | h1
    · have := ih (by omega); rw [numW]; omega
    · have : j = k + 1 := by omega
      subst this; exact Nat.le_refl _
theorem numW_lt {ws : List Vx} {j k : Nat} (h : j < k) (hu : 0 < useN ws (j : Int)) : numW ws j < numW ws k := by
  have h1 : numW ws (j + 1) = numW ws j + 1 := by rw [numW, if_pos hu]
  have := numW_mono ws (show j + 1 ≤ k from h)
  omega
theorem numW_inj {ws : List Vx} {j k : Nat} (hj : 0 < useN ws (j : Int)) (hk : 0 < useN ws (k : Int)) (e : numW ws j = numW ws k) : j = k := by
  rcases Nat.lt_trichotomy j k with h | h | h
  · have := numW_lt h hj; omega
  · exact h
  · have := numW_lt h hk; omega
theorem numW_surj {ws : List Vx} {n m : Nat} (h : m < numW ws n) : ∃ j, j < n ∧ 0 < useN ws (j : Int) ∧ numW ws j = m := by
  induction n with
  | zero => simp [numW] at h
  | succ n ih =>
    rw [numW] at h
    by_cases q : m < numW ws n
    · obtain ⟨j, h1, h2, h3⟩ := ih q
      exact ⟨j, by omega, h2, h3⟩
    · by_cases hu : 0 < useN ws (n : Int)
      · rw [if_pos hu] at h
        exact ⟨n, by omega, hu, by omega⟩
      · rw [if_neg hu] at h; omega
/-- the used creases get the numbers from 0 on -/
def numF (ws : List Vx) : Nat → Int := fun c => (numW ws c : Int)
theorem use_num {ws rs : List Vx} (hr : ∀ v ∈ rs, ∀ c ∈ v.2, 0 ≤ c ∧ 0 < useN ws c) {m : Nat} (hm : 0 < useN ws (m : Int)) : useN (rs.map (renV (numF ws))) (numF ws m) = useN rs (m : Int) := by
  induction rs with
  | nil => rfl
  | cons v r ih =>
    rw [List.map_cons, useN, useN, ih fun u hu => hr u (by simp [hu])]
    congr 1
    have : numF ws m ∈ (renV (numF ws) v).2 ↔ (m : Int) ∈ v.2 := by
      unfold renV
      rw [List.mem_map]
      constructor
      · rintro ⟨c, hc, e⟩
        have h1 := hr v (by simp) c hc
        have hz : ((c.toNat : Nat) : Int) = c := by omega
        have := numW_inj (by rw [hz]; exact h1.2) hm (by unfold numF at e; omega)
        have e2 : c = (m : Int) := by omega
        exact e2 ▸ hc
      · intro hc
        exact ⟨_, hc, by rw [Int.toNat_natCast]⟩
    simp only [this]
/-- what is known of the vertices that stay -/
structure WoOk (ws : List Vx) (n : Nat) : Prop where
  l1 : 1 ≤ ws.length
  l3 : ws.length ≤ 3
  hv : ws.all vtxB = true
  hb : ∀ v ∈ ws, ∀ c ∈ v.2, 0 ≤ c ∧ c < (n : Int)
  hu : ∀ k : Nat, useN ws (k : Int) ≤ 2
  h10 : n ≤ 10
namespace WoOk
variable {ws : List Vx} {n : Nat}
theorem used (h : WoOk ws n) : ∀ v ∈ ws, ∀ c ∈ v.2, 0 ≤ c ∧ 0 < useN ws c := fun v hv c hc => ⟨(h.hb v hv c hc).1, useN_pos.2 ⟨v, hv, hc⟩⟩
theorem num_lt (h : WoOk ws n) {v : Vx} (hv : v ∈ ws) {c : Int} (hc : c ∈ v.2) : numW ws c.toNat < numW ws n := by
  have h1 := h.hb v hv c hc
  have h2 := h.used v hv c hc
  have hz : ((c.toNat : Nat) : Int) = c := by omega
  exact numW_lt (by omega) (by rw [hz]; exact h2.2)
theorem ncr_num (h : WoOk ws n) : ncr (ws.map (renV (numF ws))) = (numW ws n : Int) := by
  apply Int.le_antisymm
  · unfold ncr
    rcases ncGo_is 0 (ws.map (renV (numF ws))) with e | ⟨u, hu, x, hx, e⟩
    · rw [e]; omega
    · rw [e]
      obtain ⟨v, hv, rfl⟩ := List.mem_map.1 hu
      obtain ⟨c, hc, rfl⟩ := List.mem_map.1 hx
      have := h.num_lt hv hc
      unfold numF
      omega
  · rcases Nat.eq_zero_or_pos (numW ws n) with h0 | h0
    · rw [h0]; exact (ncGo_le 0 _).1
    · obtain ⟨j, hj, hu, e⟩ := numW_surj (ws := ws) (n := n) (m := numW ws n - 1) (by omega)
      obtain ⟨v, hv, hc⟩ := useN_pos.1 hu
      have := (ncGo_le 0 (ws.map (renV (numF ws)))).2 (renV (numF ws) v) (List.mem_map.2 ⟨v, hv, rfl⟩) (numF ws j) (by
        unfold renV
        exact List.mem_map.2 ⟨_, hc, by rw [Int.toNat_natCast]⟩)
      unfold ncr
      unfold numF at this ⊢
      omega
theorem vtx_num (h : WoOk ws n) {v : Vx} (hv : v ∈ ws) : vtxB (renV (numF ws) v) = true := by
  have h0 := List.all_eq_true.1 h.hv v hv
  have h10 := h.h10
  unfold vtxB at h0 ⊢
  simp only [Bool.and_eq_true, decide_eq_true_eq] at h0 ⊢
  obtain ⟨⟨h1, h2⟩, h3⟩ := h0
  refine ⟨⟨h1, ?_⟩, ?_⟩
  · unfold renV; simp; omega
  · rw [crB_iff] at h3 ⊢
    have hle := numW_le ws n
    constructor
    · intro x hx
      obtain ⟨c, hc, rfl⟩ := List.mem_map.1 hx
      have := h.num_lt hv hc
      unfold numF
      omega
    · show ((v.2.map fun c => numF ws c.toNat)).Nodup
      rw [List.nodup_iff_pairwise_ne, List.pairwise_map]
      refine List.Pairwise.imp_of_mem (fun {a b} ha hb hne => ?_) (List.nodup_iff_pairwise_ne.1 h3.2)
      have ua := h.used v hv a ha
      have ub := h.used v hv b hb
      have za : ((a.toNat : Nat) : Int) = a := by omega
      have zb : ((b.toNat : Nat) : Int) = b := by omega
      intro e
      unfold numF at e
      have := numW_inj (ws := ws) (j := a.toNat) (k := b.toNat) (by rw [za]; exact ua.2) (by rw [zb]; exact ub.2) (by omega)
      omega
theorem pat_num' (h : WoOk ws n) : patB (ws.map (renV (numF ws))) = true := by
  have hall : (ws.map (renV (numF ws))).all vtxB = true := by
    rw [List.all_eq_true]
    intro u hu
    obtain ⟨v, hv, rfl⟩ := List.mem_map.1 hu
    exact h.vtx_num hv
  unfold patB
  rw [h.ncr_num, Int.toNat_natCast, hall, usesOk_iff.2 fun k hk => by
    obtain ⟨j, _, hu, e⟩ := numW_surj (ws := ws) (n := n) (m := k) hk
    have h1 := use_num (rs := ws) h.used hu
    have h2 : numF ws j = (k : Int) := by unfold numF; omega
    rw [h2] at h1
    rw [h1]
    have := h.hu j
    omega]
  have := h.l1
  have := h.l3
  rw [decide_eq_true (by rw [List.length_map]; omega), decide_eq_true (by rw [List.length_map]; omega)]; rfl
end WoOk
/-- the letters of the used creases -/
def pU (ws : List Vx) (s : List UInt8) : Nat → List UInt8
  | 0 => []
  | k + 1 => if 0 < useN ws (k : Int) then pU ws s k ++ [s.getD k 0] else pU ws s k
theorem pU_len (ws : List Vx) (s : List UInt8) (k : Nat) : (pU ws s k).length = numW ws k := by
  induction k with
  | zero => rfl
  | succ k ih =>
    rw [pU, numW]
    split
    · rw [List.length_append, ih]; rfl
    · rw [ih]; rfl
theorem pU_get {ws : List Vx} {s : List UInt8} {n j : Nat} (hj : j < n) (hu : 0 < useN ws (j : Int)) : (pU ws s n).getD (numW ws j) 0 = s.getD j 0 := by
  induction n with
  | zero => omega
  | succ n ih =>
    rw [pU]
    by_cases e : j = n
    · subst e
      rw [if_pos hu, List.getD_eq_getElem?_getD, List.getElem?_append_right (by rw [pU_len]; exact Nat.le_refl _), pU_len, Nat.sub_self]; rfl
    · have hl : numW ws j < (pU ws s n).length := by rw [pU_len]; exact numW_lt (by omega) hu
      split
      · rw [List.getD_eq_getElem?_getD, List.getElem?_append_left hl, ← List.getD_eq_getElem?_getD]; exact ih (by omega)
      · exact ih (by omega)
theorem pU_mv {ws : List Vx} {s : List UInt8} (hs : ∀ c ∈ s, mvB c = true) {n : Nat} (hn : n ≤ s.length) : ∀ c ∈ pU ws s n, mvB c = true := by
  induction n with
  | zero => intro c hc; cases hc
  | succ n ih =>
    intro c hc
    rw [pU] at hc
    split at hc
    · rcases List.mem_append.1 hc with hc | hc
      · exact ih (by omega) c hc
      · rw [List.mem_singleton] at hc
        rw [hc, List.getD_eq_getElem?_getD, List.getElem?_eq_getElem (by omega)]
        exact hs _ (List.getElem_mem _)
    · exact ih (by omega) c hc
theorem without_ok {vs : List Vx} {k n : Nat} (hp : patB vs = true) (hn : ncr vs = (n : Int)) (hk : k < vs.length) (h1 : vs.length ≠ 1) : WoOk (vs.eraseIdx k) n := by
  obtain ⟨p1, p3, hall, huse, _, h10⟩ := patB_parts hp
  have hl : (vs.eraseIdx k).length = vs.length - 1 := by rw [List.length_eraseIdx, if_pos hk]
  refine ⟨by omega, by omega, ?_, ?_, ?_, by omega⟩
  · rw [List.all_eq_true] at hall ⊢
    exact fun v hv => hall v (List.mem_of_mem_eraseIdx hv)
  · exact fun v hv => bd_n hp hn v (List.mem_of_mem_eraseIdx hv)
  · intro j
    have h2 := useN_erase hk (j : Int)
    rcases Nat.eq_zero_or_pos (useN vs (j : Int)) with h0 | h0
    · omega
    · have := use_bd hp hn h0
      have := use_in hp hn (show j < n by omega)
      omega
theorem without_eq {vs : List Vx} {k : Nat} : withoutL vs k = (vs.eraseIdx k).map (renV (numF (vs.eraseIdx k))) := rfl
theorem pat_wo {vs : List Vx} {k n : Nat} (hp : patB vs = true) (hn : ncr vs = (n : Int)) (hk : k < vs.length) (h1 : vs.length ≠ 1) : patB (withoutL vs k) = true ∧ ncr (withoutL vs k) = (numW (vs.eraseIdx k) n : Int) :=
  ⟨(without_ok hp hn hk h1).pat_num', (without_ok hp hn hk h1).ncr_num⟩
theorem pfB_wo {vs : List Vx} {k n : Nat} {s : ByteArray} (hf : pfB vs s = true) (hn : ncr vs = (n : Int)) (hk : k < vs.length) (h1 : vs.length ≠ 1) : pfB (withoutL vs k) (bts (pU (vs.eraseIdx k) s.data.toList n)) = true := by
  obtain ⟨hp, hs, ha⟩ := pfB_parts hf
  have hw := without_ok hp hn hk h1
  have hc := hw.ncr_num
  rw [fvB_iff, hn] at hs
  unfold pfB
  rw [without_eq, hw.pat_num', hc]
  have hl : n ≤ s.data.toList.length := by omega
  have e1 : fvB (bts (pU (vs.eraseIdx k) s.data.toList n)).data.toList (numW (vs.eraseIdx k) n : Int) = true := by
    rw [fvB_iff, bts_list]
    exact ⟨by rw [pU_len], pU_mv hs.2 hl⟩
  rw [e1]
  show List.all _ _ = true
  rw [List.all_eq_true]
  intro u hu
  obtain ⟨v, hv, rfl⟩ := List.mem_map.1 hu
  rw [← ha v (List.mem_of_mem_eraseIdx hv)]
  unfold vfT
  have e2 : picked (bts (pU (vs.eraseIdx k) s.data.toList n)) (renV (numF (vs.eraseIdx k)) v).2 = picked s v.2 := by
    unfold picked pickL renV
    rw [List.map_map, bts_list]
    congr 2
    refine List.map_congr_left fun c hc => ?_
    have b := hw.hb v hv c hc
    have hz : ((c.toNat : Nat) : Int) = c := by omega
    show (pU (vs.eraseIdx k) s.data.toList n).getD (numW (vs.eraseIdx k) c.toNat : Int).toNat 0 = _
    rw [Int.toNat_natCast]
    exact pU_get (by omega) (by rw [hz]; exact (hw.used v hv c hc).2)
  rw [e2]; rfl
end Go.Proofs.Ytnccpifdajcejaa
namespace Go.Proofs.Ytnccpifdajcejaa
open Go.RowKit

theorem bts_more {l : List UInt8} {s : ByteArray} {j : Nat} (h : j < s.size) : bts l ++ s.extract j (j + 1) = bts (l ++ [s.data.toList.getD j 0]) := by
  have hl : j < s.data.toList.length := by
    have : s.data.toList.length = s.size := by simp
    omega
  have e : s.extract j (j + 1) = bts [s.data.toList.getD j 0] := by
    apply ByteArray.ext
    apply Array.ext'
    show (s.extract j (j + 1)).data.toList = [s.data.toList.getD j 0]
    rw [ByteArray.data_extract, Array.toList_extract, List.extract_eq_take_drop, List.drop_eq_getElem_cons hl, Nat.add_sub_cancel_left, List.getD_eq_getElem?_getD, List.getElem?_eq_getElem hl]
    rfl
  rw [e]
  exact ByteArray.mk_append_mk _ _
theorem without_facts {vs : List Vx} {z : Int} (h : withoutB vs z = true) : patB vs = true ∧ ∃ k : Nat, z = (k : Int) ∧ k < vs.length ∧ vs.length ≠ 1 ∧ woR vs z = withoutL vs k ∧ patB (woR vs z) = true ∧ (woR vs z).length = vs.length - 1 := by
  have h0 := h
  unfold withoutB at h
  simp only [Bool.and_eq_true, decide_eq_true_eq] at h
  obtain ⟨⟨⟨hp, h1⟩, h2⟩, h3⟩ := h
  obtain ⟨n, hn, _, _⟩ := pat_num hp
  have hk : z.toNat < vs.length := by omega
  have e : woR vs z = withoutL vs z.toNat := by unfold woR; rw [h0, if_pos rfl]
  refine ⟨hp, z.toNat, by omega, hk, h3, e, ?_, ?_⟩
  · rw [e]; exact (pat_wo hp hn hk h3).1
  · rw [e]; exact withoutL_len hk

set_option maxHeartbeats 4000000 in
set_option maxRecDepth 100000 in
theorem law_FnPatternWithout (A : Option Addr) (cap : Nat) (bs : List UInt8) (w : World) (h : Codes w w.heap.size A bs) (hcap : bs.length ≤ cap) (hcm : cap ≤ maxLen) :
    Calls Try.prog 7 #[.slice A bs.length cap] w fun e w' => e = .returned (.bool true) ∧ Below w.heap.size w w' := by
  have hlm : bs.length ≤ maxLen := Nat.le_trans hcap hcm
  have hlm2 := hlm
  unfold maxLen at hlm2
  by_cases g1 : 1048576 < bs.length
  · have d1 : decide ((1048576 : Int) < (bs.length : Int)) = true := by simp; omega
    go_enter Try.func7, Try.ntmps7
    go_wp2_with fail
    go_ret
    exact ⟨rfl, Below.refl _ _⟩
  · have d1 : decide ((1048576 : Int) < (bs.length : Int)) = false := by simp; omega
    go_enter Try.func7, Try.ntmps7
    go_wp2_with fail
    refine (spec_DrawPatternWithout w A cap bs h (by omega) hcap hcm).mono ?_
    rintro e w1 ⟨B, vs, c, z, rfl, hV, hl2, hlc, hcm2, hlen, hb1⟩
    have hvm : vs.length ≤ maxLen := by unfold maxLen; omega
    obtain ⟨rs, hrs⟩ : ∃ rs, rs = woR vs z := ⟨_, rfl⟩
    obtain ⟨b, hb⟩ : ∃ b, b = withoutB vs z := ⟨_, rfl⟩
    have hrl : rs.length ≤ 2 := by
      rw [hrs]; unfold woR
      split
      · unfold withoutL; rw [List.length_map, List.length_eraseIdx]; split <;> omega
      · simp
    have hrm : rs.length ≤ maxLen := by unfold maxLen; omega
    have hbb : (b != b) = false := by cases b <;> rfl
    have hbb2 : (b == b) = true := by cases b <;> rfl
    have HRS := Lib.hid hrs
    have HBb := Lib.hid hb
    have HB1 := Lib.hid hb1
    have HV1 := Lib.hid hV
    have HLen := Lib.hid hlen
    clear hrs hb hlen hb1 hV
    go_wp2_with fail
    refine (impl_PatternWithout B c vs z w1 HV1.out hvm).mono ?_
    rintro e w2 ⟨g2, L2, rfl, hr2, ho2, hb2⟩
    rw [← HRS.out] at hr2 ho2 ⊢
    rw [← HBb.out]
    have b2 := below_from HB1.out hb2 HB1.out.size
    have HV2 := Lib.hid (HV1.out.below hb2)
    have HR2 := Lib.hid (hr2.read ho2 rfl)
    have HB2 := Lib.hid b2
    clear hr2 ho2 hb2 b2 HB1 HV1
    go_wp2_with fail
    refine (spec_PatternWithout B c vs z w2 HV2.out hlc hcm2).mono ?_
    rintro e w3 ⟨A3, c3, rfl, hv3, _, _, hb3⟩
    rw [← HRS.out] at hv3 ⊢
    rw [← HBb.out]
    have HV3 := Lib.hid (HV2.out.below hb3)
    have HR3 := Lib.hid (HR2.out.below hb3)
    have HS3 := Lib.hid hv3
    have HB3 := Lib.hid (below_from HB2.out hb3 HB2.out.size)
    clear hb3 hv3 HB2 HV2 HR2
    go_wp2_with fail
    refine (laws_samePattern _ _ rs.length c3 rs w3 HR3.out HS3.out (by omega)).mono ?_
    rintro e w4 ⟨rfl, hb4⟩
    have HV4 := Lib.hid (HV3.out.below hb4)
    have HR4 := Lib.hid (HR3.out.below hb4)
    have HS4 := Lib.hid (HS3.out.below hb4)
    have HB4 := Lib.hid (below_from HB3.out hb4 HB3.out.size)
    clear hb4 HB3 HV3 HR3 HS3
    cases b with
    | false =>
      go_wp2_with fail
      refine (laws_samePattern _ _ rs.length c3 rs w4 HR4.out HS4.out (by omega)).mono ?_
      rintro e w5 ⟨rfl, hb5⟩
      have b5 := below_from HB4.out hb5 HB4.out.size
      go_wp2_with fail
      go_ret
      exact ⟨rfl, b5⟩
    | true =>
      clear HS4
      obtain ⟨hp, at_, rfl, hal, hn1, hwo, hpr, hrl2⟩ := without_facts HBb.out.symm
      rw [← HRS.out] at hwo hpr hrl2
      have hl5 : ((rs.length : Int) == (vs.length : Int) - 1) = true := by rw [beq_iff_eq]; omega
      have kl : IntKind.i64.wrap ((vs.length : Int) - 1) = (vs.length : Int) - 1 := IntWalk.i64_in _ (by omega)
      have HP := Lib.hid hp
      have HN1 := Lib.hid hn1
      have HWO := Lib.hid hwo
      have HPR := Lib.hid hpr
      have HRL := Lib.hid hrl2
      obtain ⟨T, hT⟩ : ∃ T, T = pfT vs := ⟨_, rfl⟩
      obtain ⟨fb, hfb⟩ : ∃ fb, fb = (pfo vs).isSome := ⟨_, rfl⟩
      have HT := Lib.hid hT
      have HFb := Lib.hid hfb
      clear hp hn1 hwo hpr hrl2 hT hfb HBb HRS
      go_wp2_with fail
      refine (impl_PatternFirst B c vs w4 HV4.out hvm hlc hcm2).mono ?_
      rintro e w5 ⟨rfl, hb5⟩
      rw [← HT.out, ← HFb.out]
      have HV5 := Lib.hid (HV4.out.below hb5)
      have HR5 := Lib.hid (HR4.out.below hb5)
      have HB5 := Lib.hid (below_from HB4.out hb5 HB4.out.size)
      clear hb5 HB4 HV4 HR4
      cases fb with
      | false =>
        go_wp2_with fail
        refine (impl_PatternValid _ rs.length rs w5 HR5.out hrm).mono ?_
        rintro e w6 ⟨rfl, hb6⟩
        rw [HPR.out]
        have b6 := below_from HB5.out hb6 HB5.out.size
        clear hb6
        go_wp2_with fail
        go_ret
        exact ⟨rfl, b6⟩
      | true =>
        obtain ⟨r, hr⟩ := Option.isSome_iff_exists.1 HFb.out.symm
        obtain ⟨hp, n, hn, hn10, hn2, hpc, hr2, hrr, hrl, hpt⟩ := pfo_some hr
        rw [← HT.out] at hpt
        have hTs : T.size = n := by rw [hpt]; exact txt_size' n r
        have hfT : pfB vs T = true := by rw [hpt, pfB_txt hp hn]; exact hrr
        obtain ⟨es, hes⟩ : ∃ es, es = vs.eraseIdx at_ := ⟨_, rfl⟩
        have hel : es.length = vs.length - 1 := by rw [hes, List.length_eraseIdx, if_pos hal]
        have hwo := without_ok hp hn hal HN1.out
        rw [← hes] at hwo
        have hev : ∀ v ∈ es, v.2.length ≤ 1000 := fun v hv => by
          have := HLen.out v (by rw [hes] at hv; exact List.mem_of_mem_eraseIdx hv)
          omega
        have hfd : pfB rs (bts (pU es T.data.toList T.size)) = true := by
          rw [HWO.out, hes, hTs]
          exact pfB_wo hfT hn hal HN1.out
        have HEV := Lib.hid hev
        have HEA := Lib.hid hwo.hv
        have HES := Lib.hid hes
        have HEL := Lib.hid hel
        have HFD := Lib.hid hfd
        have hT10 : T.size ≤ 10 := by omega
        clear hr hp hn hn10 hn2 hpc hr2 hrr hrl hpt hTs hfT hes hel hwo hev hfd HT HFb HP HWO
        obtain ⟨b, off, _, _, _, _, rfl, hb, _, _, _, _, _, _, _, _⟩ := HV5.out.at_ hal
        obtain ⟨L1, hL1, hc1⟩ := (show Verts w5 (some ⟨b, off, none⟩) (vs.take at_) from by have := HV5.out.cut 0 at_; simpa using this).cells (some w5.heap.size) (fun g e => by cases e; exact Nat.le_refl _)
        obtain ⟨L2, hL2, hc2⟩ := (show Verts w5 (some ⟨b, off + (at_ + 1) * 2, none⟩) (vs.drop (at_ + 1)) from by
          have := HV5.out.cut (at_ + 1) (vs.length - (at_ + 1))
          rwa [List.take_of_length_le (by simp)] at this).cells (some w5.heap.size) (fun g e => by cases e; exact Nat.le_refl _)
        have hb' : b < w5.heap.size := hb
        have n1 : ∀ W : World, Below w5.heap.size w5 W → ∀ a, some (⟨b, off, none⟩ : Addr) = some a → ∀ j u, L1[j]? = some u → W.cell? (a.add j) = some u := by
          intro W hW a e j u hj
          cases e
          rw [Addr.add_lit]
          exact (hW.cell (p := ⟨b, off + j, none⟩) hb').trans (hc1 j u hj)
        have n2 : ∀ W : World, Below w5.heap.size w5 W → ∀ a, some (⟨b, off + (at_ + 1) * 2, none⟩ : Addr) = some a → ∀ j u, L2[j]? = some u → W.cell? (a.add j) = some u := by
          intro W hW a e j u hj
          cases e
          rw [Addr.add_lit]
          exact (hW.cell (p := ⟨b, off + (at_ + 1) * 2 + j, none⟩) hb').trans (hc2 j u hj)
        have s1 : L1.length = at_ * 2 := by rw [hL1.1, List.length_take]; omega
        have s2 : L2.length = (vs.length - (at_ + 1)) * 2 := by rw [hL2.1, List.length_drop]
        have HN1' := Lib.hid n1
        have HN2 := Lib.hid n2
        have HS1 := Lib.hid s1
        have HS2 := Lib.hid s2
        have HO1 := Lib.hid hL1.one
        have HO2 := Lib.hid hL2.one
        have HL1 := Lib.hid hL1
        have HL2 := Lib.hid hL2
        have k0 : (0 : Int) ≤ (at_ : Int) := by omega
        have k1 : (at_ : Int) ≤ (c : Int) := by omega
        have k2 : (at_ : Int) + 1 ≤ (vs.length : Int) := by omega
        have k3 : (vs.length : Int) ≤ (c : Int) := by omega
        have k4 : (at_ : Int) ≤ (vs.length : Int) := by omega
        unfold maxLen at hcm2
        have kw : IntKind.i64.wrap ((at_ : Int) + 1) = (at_ : Int) + 1 := IntWalk.i64_in _ (by omega)
        have kt : ((at_ : Int) + 1).toNat = at_ + 1 := by omega
        have kz : (0 : Int) ≤ (at_ : Int) + 1 := by omega
        clear n1 n2 s1 s2 hc1 hc2 hL1 hL2 HV5
        by_cases hcz : c = at_ + 1
        · have hlz : vs.length = at_ + 1 := by omega
          have k5 : (at_ : Int) ≤ (at_ : Int) + 1 := by omega
          have k6 : (vs.length : Int) ≤ (at_ : Int) + 1 := by omega
          have k7 : at_ ≤ at_ + 1 := by omega
          have k8 : (at_ : Int) ≤ ((at_ + 1 : Nat) : Int) := by omega
          have hnil : L2 = [] := List.eq_nil_of_length_eq_zero (by rw [HS2.out]; omega)
          have HN2' : Hid (∀ W : World, ∀ a, some (⟨b, off, none⟩ : Addr) = some a → ∀ j u, L2[j]? = some u → W.cell? (a.add j) = some u) := fun W a e j u hj => by rw [hnil] at hj; simp at hj
          clear hnil hlz
          go_wp2_with fail
          go_region_held3 (fun w' => True) (trivial) (first
            | (have _z := hownA.1; refine step_appV (by rfl) _ _ (by rfl) w5.heap.size _ at_ L1 _ (vs.length - (at_ + 1)) _ L2 (by rfl) (by rfl) hownA HS2.out (fun e => by cases e) (HN2'.out _) HO2.out hbA.size (by omega) ?_; intro vB wB hownB hgB hbB hmB hrB)
            | (refine step_appV (by rfl) _ _ (by rfl) w5.heap.size _ 0 [] _ at_ _ L1 (by rfl) (by rfl) (World.ownsRow_lit (w5.drewN _) #[] 0 (Nat.le_refl _) (by unfold maxLen; omega) rfl) HS1.out (fun e => by cases e) (HN1'.out _ ((below_drewN (Below.refl _ _) _).alloc (Nat.le_refl _) _)) HO1.out (Nat.le_of_lt (by simp)) (by omega) ?_; intro vA wA hA0 hgA hbA' hmA hrA; have hownA : OwnX wA w5.heap.size vA at_ L1 := (by simpa using hA0); have hbA : Below w5.heap.size w5 wA := ((below_drewN (Below.refl _ _) _).alloc (Nat.le_refl _) _).trans hbA'))
          all_goals (subst hcz; clear hlc k6 k3)
          all_goals
            have hrse : es = vs.take at_ ++ vs.drop (at_ + 1) := by rw [HES.out]; exact List.eraseIdx_eq_take_drop_succ ..
            have hBA : Below w5.heap.size w5 wB := hbA.trans hbB
            have hoB : OwnX wB w5.heap.size vB (vs.length - 1) (L1 ++ L2) := by
              have := hownB
              rwa [show at_ + (vs.length - (at_ + 1)) = vs.length - 1 from by omega] at this
            have hqB : ∀ q, vB.ownBlock = some q → w5.heap.size ≤ q := fun q hq => (hoB.lt q hq).1
            have hcB : VCell wB vB.ownBlock es (L1 ++ L2) := by
              rw [hrse]
              exact (HL1.out.app HL2.out).imp fun V xs hi => IntsF.of_old hi.intsV hBA hqB
            obtain ⟨AR, cR, rfl, hRc, hRm⟩ := hoB.form
            have hVR : Verts wB AR es := hcB.verts hoB HEL.out
            have HR6 := Lib.hid (HR5.out.below hBA)
            have HB6 := Lib.hid (HB5.out.trans (hBA.mono HB5.out.size))
            have hu : ∀ k : Nat, Calls Try.prog 19 #[.slice AR (vs.length - 1) cR, .int .i64 k] wB fun e w' => e = .returned (.int .i64 (useN es k : Int)) ∧ wB = w' := fun k => by
              have h1 := laws_uses AR cR es (k : Int) wB hVR (by have := HEL.out; omega) HEV.out
              rwa [cntM_use HEA.out, HEL.out] at h1
            have HU := Lib.hid hu
            clear HN2' hrse hBA hownB hoB hqB hcB hVR hu hbA' hmA hmB hrA hrB hgA hgB hownA HN1' HN2 HO1 HO2 hA0 hbA hbB HL1 HL2 HS1 HS2 kw kt HR5 HB5 hb hb' hRc hRm
            go_wp2_with fail
            go_loopg [12, 13] (T.size + 1) (fun g s12 s13 wr => ∃ (k : Nat) (t : ByteArray), k ≤ T.size ∧ s13 = .int .i64 k ∧ s12 = .string t ∧ T.size - k < g ∧ wB = wr ∧ t.size ≤ k ∧ Hid (t = bts (pU es T.data.toList k)))
            case atStart => exact ⟨0, _, Nat.zero_le _, rfl, rfl, by omega, rfl, Nat.le_refl _, by show _ = _; rfl⟩
            case round =>
              obtain ⟨k, t, hk, rfl, rfl, hg, rfl, ht, HE⟩ := hrel
              cases gk with
              | zero => omega
              | succ g =>
              by_cases hlt : k < T.size
              · have j1 : (k : Int) < (T.size : Int) := by omega
                have j2 : (k : Int) + 1 ≤ (T.size : Int) := by omega
                have j3 : (0 : Int) ≤ (k : Int) := by omega
                have j4 : (k : Int) ≤ (k : Int) + 1 := by omega
                have jw : IntKind.i64.wrap ((k : Int) + 1) = (k : Int) + 1 := IntWalk.i64_in _ (by omega)
                obtain ⟨u, hu⟩ : ∃ u, u = useN es (k : Int) := ⟨_, rfl⟩
                have HUk := HU.out k
                rw [← hu] at HUk
                have HUK := Lib.hid HUk
                clear HUk
                by_cases hu0 : 0 < u
                · have du : decide ((0 : Int) < (u : Int)) = true := by simp; omega
                  have hsz : (T.extract k (k + 1)).size = 1 := by rw [ByteArray.size_extract]; omega
                  have hts2 : (t ++ T.extract k (k + 1)).size ≤ k + 1 := by rw [ByteArray.size_append, hsz]; omega
                  have b12 : ∀ W, (Op.stringOp .add t (T.extract k (k + 1))).run Try.prog W = .ok (.string (t ++ T.extract k (k + 1))) W := fun W => run_string_add_sum W _ _ (by rw [hsz]; omega)
                  have HE2 : Hid (t ++ T.extract k (k + 1) = bts (pU es T.data.toList (k + 1))) := by
                    show _ = _
                    rw [HE.out, bts_more hlt, pU, if_pos (by rw [← hu]; exact hu0)]
                  have HTS := Lib.hid hts2
                  clear hsz hts2 hu
                  go_wp2_with fail
                  refine HUK.out.mono ?_
                  rintro e w' ⟨rfl, rfl⟩
                  go_wp2_with fail
                  go_roundg g
                  case measure => omega
                  case rel => exact ⟨k + 1, _, by omega, by go_num, rfl, by omega, rfl, HTS.out, HE2⟩
                · have du : decide ((0 : Int) < (u : Int)) = false := by simp; omega
                  have HE2 : Hid (t = bts (pU es T.data.toList (k + 1))) := by
                    show _ = _
                    rw [HE.out, pU, if_neg (by rw [← hu]; exact hu0)]
                  clear hu
                  go_wp2_with fail
                  refine HUK.out.mono ?_
                  rintro e w' ⟨rfl, rfl⟩
                  go_wp2_with fail
                  go_roundg g
                  case measure => omega
                  case rel => exact ⟨k + 1, _, by omega, by go_num, rfl, by omega, rfl, by omega, HE2⟩
              · have hkT : k = T.size := by omega
                have hft : pfB rs t = true := by rw [HE.out, hkT]; exact HFD.out
                have htm : t.size ≤ maxLen := by unfold maxLen; omega
                have d9 : decide ((k : Int) < (T.size : Int)) = false := by simp; omega
                have HFt := Lib.hid hft
                clear hft hkT
                go_wp2_with fail
                refine (impl_PatternValid _ rs.length rs wB HR6.out hrm).mono ?_
                rintro e w7 ⟨rfl, hb7⟩
                rw [HPR.out]
                have HR7 := Lib.hid (HR6.out.below hb7)
                have HB7 := Lib.hid (below_from HB6.out hb7 HB6.out.size)
                clear hb7
                go_wp2_with fail
                refine (impl_PatternFolds _ rs.length rs t w7 HR7.out hrm htm (Nat.le_refl _) hrm).mono ?_
                rintro e w8 ⟨rfl, hb8⟩
                rw [HFt.out]
                have b8 := below_from HB7.out hb8 HB7.out.size
                clear hb8
                go_wp2_with fail
                go_ret
                exact ⟨rfl, b8⟩
        · have hcz2 : ¬ c = at_ + 1 := hcz
          go_wp2_with fail
          go_region_held3 (fun w' => True) (trivial) (first
            | (have _z := hownA.1; refine step_appV (by rfl) _ _ (by rfl) w5.heap.size _ at_ L1 _ (vs.length - (at_ + 1)) _ L2 (by rfl) (by rfl) hownA HS2.out (fun e => by cases e) (HN2.out _ hbA) HO2.out hbA.size (by omega) ?_; intro vB wB hownB hgB hbB hmB hrB)
            | (refine step_appV (by rfl) _ _ (by rfl) w5.heap.size _ 0 [] _ at_ _ L1 (by rfl) (by rfl) (World.ownsRow_lit (w5.drewN _) #[] 0 (Nat.le_refl _) (by unfold maxLen; omega) rfl) HS1.out (fun e => by cases e) (HN1'.out _ ((below_drewN (Below.refl _ _) _).alloc (Nat.le_refl _) _)) HO1.out (Nat.le_of_lt (by simp)) (by omega) ?_; intro vA wA hA0 hgA hbA' hmA hrA; have hownA : OwnX wA w5.heap.size vA at_ L1 := (by simpa using hA0); have hbA : Below w5.heap.size w5 wA := ((below_drewN (Below.refl _ _) _).alloc (Nat.le_refl _) _).trans hbA'))
          all_goals
            have hrse : es = vs.take at_ ++ vs.drop (at_ + 1) := by rw [HES.out]; exact List.eraseIdx_eq_take_drop_succ ..
            have hBA : Below w5.heap.size w5 wB := hbA.trans hbB
            have hoB : OwnX wB w5.heap.size vB (vs.length - 1) (L1 ++ L2) := by
              have := hownB
              rwa [show at_ + (vs.length - (at_ + 1)) = vs.length - 1 from by omega] at this
            have hqB : ∀ q, vB.ownBlock = some q → w5.heap.size ≤ q := fun q hq => (hoB.lt q hq).1
            have hcB : VCell wB vB.ownBlock es (L1 ++ L2) := by
              rw [hrse]
              exact (HL1.out.app HL2.out).imp fun V xs hi => IntsF.of_old hi.intsV hBA hqB
            obtain ⟨AR, cR, rfl, hRc, hRm⟩ := hoB.form
            have hVR : Verts wB AR es := hcB.verts hoB HEL.out
            have HR6 := Lib.hid (HR5.out.below hBA)
            have HB6 := Lib.hid (HB5.out.trans (hBA.mono HB5.out.size))
            have hu : ∀ k : Nat, Calls Try.prog 19 #[.slice AR (vs.length - 1) cR, .int .i64 k] wB fun e w' => e = .returned (.int .i64 (useN es k : Int)) ∧ wB = w' := fun k => by
              have h1 := laws_uses AR cR es (k : Int) wB hVR (by have := HEL.out; omega) HEV.out
              rwa [cntM_use HEA.out, HEL.out] at h1
            have HU := Lib.hid hu
            clear hrse hBA hownB hoB hqB hcB hVR hu hbA' hmA hmB hrA hrB hgA hgB hownA HN1' HN2 HO1 HO2 hA0 hbA hbB HL1 HL2 HS1 HS2 kw kt HR5 HB5 hb hb' hRc hRm
            go_wp2_with fail
            go_loopg [12, 13] (T.size + 1) (fun g s12 s13 wr => ∃ (k : Nat) (t : ByteArray), k ≤ T.size ∧ s13 = .int .i64 k ∧ s12 = .string t ∧ T.size - k < g ∧ wB = wr ∧ t.size ≤ k ∧ Hid (t = bts (pU es T.data.toList k)))
            case atStart => exact ⟨0, _, Nat.zero_le _, rfl, rfl, by omega, rfl, Nat.le_refl _, by show _ = _; rfl⟩
            case round =>
              obtain ⟨k, t, hk, rfl, rfl, hg, rfl, ht, HE⟩ := hrel
              cases gk with
              | zero => omega
              | succ g =>
              by_cases hlt : k < T.size
              · have j1 : (k : Int) < (T.size : Int) := by omega
                have j2 : (k : Int) + 1 ≤ (T.size : Int) := by omega
                have j3 : (0 : Int) ≤ (k : Int) := by omega
                have j4 : (k : Int) ≤ (k : Int) + 1 := by omega
                have jw : IntKind.i64.wrap ((k : Int) + 1) = (k : Int) + 1 := IntWalk.i64_in _ (by omega)
                obtain ⟨u, hu⟩ : ∃ u, u = useN es (k : Int) := ⟨_, rfl⟩
                have HUk := HU.out k
                rw [← hu] at HUk
                have HUK := Lib.hid HUk
                clear HUk
                by_cases hu0 : 0 < u
                · have du : decide ((0 : Int) < (u : Int)) = true := by simp; omega
                  have hsz : (T.extract k (k + 1)).size = 1 := by rw [ByteArray.size_extract]; omega
                  have hts2 : (t ++ T.extract k (k + 1)).size ≤ k + 1 := by rw [ByteArray.size_append, hsz]; omega
                  have b12 : ∀ W, (Op.stringOp .add t (T.extract k (k + 1))).run Try.prog W = .ok (.string (t ++ T.extract k (k + 1))) W := fun W => run_string_add_sum W _ _ (by rw [hsz]; omega)
                  have HE2 : Hid (t ++ T.extract k (k + 1) = bts (pU es T.data.toList (k + 1))) := by
                    show _ = _
                    rw [HE.out, bts_more hlt, pU, if_pos (by rw [← hu]; exact hu0)]
                  have HTS := Lib.hid hts2
                  clear hsz hts2 hu
                  go_wp2_with fail
                  refine HUK.out.mono ?_
                  rintro e w' ⟨rfl, rfl⟩
                  go_wp2_with fail
                  go_roundg g
                  case measure => omega
                  case rel => exact ⟨k + 1, _, by omega, by go_num, rfl, by omega, rfl, HTS.out, HE2⟩
                · have du : decide ((0 : Int) < (u : Int)) = false := by simp; omega
                  have HE2 : Hid (t = bts (pU es T.data.toList (k + 1))) := by
                    show _ = _
                    rw [HE.out, pU, if_neg (by rw [← hu]; exact hu0)]
                  clear hu
                  go_wp2_with fail
                  refine HUK.out.mono ?_
                  rintro e w' ⟨rfl, rfl⟩
                  go_wp2_with fail
                  go_roundg g
                  case measure => omega
                  case rel => exact ⟨k + 1, _, by omega, by go_num, rfl, by omega, rfl, by omega, HE2⟩
              · have hkT : k = T.size := by omega
                have hft : pfB rs t = true := by rw [HE.out, hkT]; exact HFD.out
                have htm : t.size ≤ maxLen := by unfold maxLen; omega
                have d9 : decide ((k : Int) < (T.size : Int)) = false := by simp; omega
                have HFt := Lib.hid hft
                clear hft hkT
                go_wp2_with fail
                refine (impl_PatternValid _ rs.length rs wB HR6.out hrm).mono ?_
                rintro e w7 ⟨rfl, hb7⟩
                rw [HPR.out]
                have HR7 := Lib.hid (HR6.out.below hb7)
                have HB7 := Lib.hid (below_from HB6.out hb7 HB6.out.size)
                clear hb7
                go_wp2_with fail
                refine (impl_PatternFolds _ rs.length rs t w7 HR7.out hrm htm (Nat.le_refl _) hrm).mono ?_
                rintro e w8 ⟨rfl, hb8⟩
                rw [HFt.out]
                have b8 := below_from HB7.out hb8 HB7.out.size
                clear hb8
                go_wp2_with fail
                go_ret
                exact ⟨rfl, b8⟩
end Go.Proofs.Ytnccpifdajcejaa
