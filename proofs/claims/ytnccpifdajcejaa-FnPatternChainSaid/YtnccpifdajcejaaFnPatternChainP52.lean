/- Patterns joined are patterns; a vertex of four creases three times. No program, no condition. The drawn pattern with folds. No condition but sizes. The laws' own helpers on vertices: a comparison of lists, texts turned and read backwards, powers and texts by rank. No condition but sizes. -/
import Derived.Test.YtnccpifdajcejaaFnPatternChainP51
import Derived.Test.YtnccpifdajcejaaDrawQ
import Derived.Test.YtnccpifdajcejaaDrawA
import Derived.Test.YtnccpifdajcejaaFnPatternChainP47
import Derived.Test.YtnccpifdajcejaaFnPatternChainP48
namespace Go.Proofs.Ytnccpifdajcejaa

theorem map_nodup {α β : Type} {f : α → β} {l : List α} (hn : l.Nodup) (hi : ∀ a b, a ∈ l → b ∈ l → f a = f b → a = b) : (l.map f).Nodup := by
  rw [List.nodup_iff_pairwise_ne, List.pairwise_map]
  exact List.Pairwise.imp_of_mem (fun {a b} ha hb h e => h (hi a b ha hb e)) (List.nodup_iff_pairwise_ne.1 hn)
namespace JoinOk
variable {us vs : List Vx} {i j : Int} {na nb : Nat}
theorem use_left (h : JoinOk us vs i j na nb) {k : Nat} (hk : k < na) : useN (joinL us vs i j) (k : Int) = useN us (k : Int) + (if (k : Int) = i then 1 else 0) := by
  rw [h.join_eq, useN_app]
  congr 1
  have hjb := h.j_bd
  by_cases e : (k : Int) = i
  · obtain ⟨m, hm⟩ : ∃ m : Nat, j = (m : Int) := ⟨j.toNat, by omega⟩
    rw [if_pos e, e]
    have h1 := use_ren (bd_n h.pb h.hb) h.inj (m := m) (by omega)
    rw [numJ_at (i := i) hm.symm, ← hm, h.uj] at h1
    exact h1
  · rw [if_neg e]
    rcases Nat.eq_zero_or_pos (useN (vs.map (renV (numJ (na : Int) i j))) (k : Int)) with h0 | h0
    · exact h0
    · exfalso
      obtain ⟨v, hv, c, hc, e2⟩ := use_ren_mem h0
      have h1 := bd_n h.pb h.hb v hv c hc
      have h2 := numJ_rng (k := c.toNat) h.i_bd hjb (by omega)
      have h3 := h2.2.2.1 (by omega)
      rw [numJ_at h3] at e2
      exact e e2.symm
theorem use_right (h : JoinOk us vs i j na nb) {m : Nat} (hm : m < nb) (hj : (m : Int) ≠ j) : useN (joinL us vs i j) (numJ (na : Int) i j m) = useN vs (m : Int) := by
  rw [h.join_eq, useN_app, use_ren (bd_n h.pb h.hb) h.inj hm]
  have h2 := numJ_rng (k := m) h.i_bd h.j_bd (by omega)
  have : useN us (numJ (na : Int) i j m) = 0 := by
    rcases Nat.eq_zero_or_pos (useN us (numJ (na : Int) i j m)) with h0 | h0
    · exact h0
    · exfalso
      have := use_bd h.pa h.ha h0
      exact hj (h2.2.2.1 this.2)
  omega
/-- two patterns joined are a pattern -/
theorem pat (h : JoinOk us vs i j na nb) (hl : us.length + vs.length ≤ 3) (hn : na + nb ≤ 11) : patB (joinL us vs i j) = true := by
  have hN := h.ncr_join
  have hib := h.i_bd
  have hjb := h.j_bd
  obtain ⟨a1, a2, a3, _, _, _⟩ := patB_parts h.pa
  obtain ⟨b1, b2, b3, _, _, _⟩ := patB_parts h.pb
  have hall : (joinL us vs i j).all vtxB = true := by
    rw [h.join_eq, List.all_append, a3, Bool.true_and, List.all_eq_true]
    intro u hu
    obtain ⟨v, hv, rfl⟩ := List.mem_map.1 hu
    have hv1 := List.all_eq_true.1 b3 v hv
    have hb := bd_n h.pb h.hb v hv
    unfold vtxB at hv1 ⊢
    simp only [Bool.and_eq_true, decide_eq_true_eq] at hv1 ⊢
    refine ⟨⟨hv1.1.1, ?_⟩, ?_⟩
    · unfold renV; rw [List.length_map]; exact hv1.1.2
    · rw [crB_iff] at hv1 ⊢
      unfold renV
      constructor
      · intro x hx
        obtain ⟨c, hc, rfl⟩ := List.mem_map.1 hx
        have h1 := hb c hc
        have h2 := numJ_rng (k := c.toNat) hib hjb (by omega)
        omega
      · refine map_nodup hv1.2.2 fun a b ha hb' e => ?_
        have h1 := hb a ha
        have h2 := hb b hb'
        have := h.inj a.toNat b.toNat (by omega) (by omega) e
        omega
  unfold patB
  rw [hall, hN, Int.toNat_natCast, joinL_len, decide_eq_true (by omega), decide_eq_true hl]
  have : usesOk (joinL us vs i j) (na + nb - 1) = true := by
    rw [usesOk_iff]
    intro k hk
    by_cases hka : k < na
    · rw [h.use_left hka]
      have := use_in h.pa h.ha hka
      by_cases e : (k : Int) = i
      · rw [if_pos e, e, h.ui]; omega
      · rw [if_neg e]; omega
    · obtain ⟨m, hm, hmj, e⟩ : ∃ m : Nat, m < nb ∧ (m : Int) ≠ j ∧ numJ (na : Int) i j m = (k : Int) := by
        by_cases e : ((k - na : Nat) : Int) < j
        · refine ⟨k - na, by omega, by omega, ?_⟩
          unfold numJ
          rw [if_neg (by omega), if_pos (by omega)]; omega
        · refine ⟨k - na + 1, by omega, by omega, ?_⟩
          unfold numJ
          rw [if_neg (by omega), if_neg (by omega)]; omega
      rw [← e, h.use_right hm hmj]
      exact use_in h.pb h.hb hm
  rw [this]; rfl
theorem joinB_eq (h : JoinOk us vs i j na nb) (hl : us.length + vs.length ≤ 3) (hn : na + nb ≤ 11) : joinB us vs i j = true ∧ jR us vs i j = joinL us vs i j := by
  have : joinB us vs i j = true := by rw [joinB_yes h.pa h.pb h.ui h.uj]; exact h.pat hl hn
  exact ⟨this, by unfold jR; rw [this, if_pos rfl]⟩
end JoinOk
/-- a chain of three vertices of four creases -/
theorem chain {v : Vx} (hp : patB [v] = true) (h4 : v.1.length = 4) :
    ∃ two three : List Vx, joinB [v] [v] 1 2 = true ∧ jR [v] [v] 1 2 = two ∧ two.length = 2 ∧ joinB two [v] 4 0 = true ∧ jR two [v] 4 0 = three ∧ three.length = 3 ∧ pcI three = 10 ∧ 4 * pmI three = pmI [v] * pmI [v] * pmI [v] := by
  obtain ⟨n, hn, _, _⟩ := pat_num hp
  have hs := pat_sum hp hn
  have hu1 : ∀ k : Nat, k < n → useN [v] (k : Int) = 1 := by
    intro k hk
    have := use_in hp hn hk
    have h2 : useN [v] (k : Int) ≤ 1 := by rw [useN, useN]; split <;> omega
    omega
  have hi : innerTo [v] n = [] := by
    have : ∀ k, k ≤ n → innerTo [v] k = [] := by
      intro k
      induction k with
      | zero => intro _; rfl
      | succ k ih => intro hk; rw [innerTo_no (by rw [hu1 k (by omega)]; omega), ih (by omega)]
    exact this n (Nat.le_refl n)
  rw [hi] at hs
  have e4 : n = 4 := by have : sumA [v] = v.1.length + 0 := rfl; simp at hs; omega
  subst e4
  have J1 : JoinOk [v] [v] 1 2 4 4 := ⟨hp, hp, hu1 1 (by omega), hu1 2 (by omega), hn, hn⟩
  obtain ⟨q1, q2⟩ := J1.joinB_eq (by simp) (by omega)
  have hp2 := J1.pat (by simp) (by omega)
  have hn2 := J1.ncr_join
  have hu4 : useN (joinL [v] [v] 1 2) 4 = 1 := by
    have h := J1.use_right (m := 0) (by omega) (by omega)
    have e : numJ ((4 : Nat) : Int) 1 2 0 = 4 := by decide
    rw [e] at h
    rw [h]; exact hu1 0 (by omega)
  have J2 : JoinOk (joinL [v] [v] 1 2) [v] 4 0 7 4 := ⟨hp2, hp, hu4, hu1 0 (by omega), hn2, hn⟩
  have hl2 : (joinL [v] [v] 1 2).length = 2 := by rw [joinL_len]; rfl
  obtain ⟨q3, q4⟩ := J2.joinB_eq (by rw [hl2]; simp) (by omega)
  have hp3 := J2.pat (by rw [hl2]; simp) (by omega)
  have hn3 := J2.ncr_join
  refine ⟨_, _, q1, q2, hl2, q3, q4, by rw [joinL_len, hl2]; rfl, by unfold pcI; rw [hp3, if_pos rfl, hn3]; rfl, ?_⟩
  have m1 := J1.pm_join hp2
  have m2 := J2.pm_join hp3
  have : 4 * pmI (joinL (joinL [v] [v] 1 2) [v] 4 0) = 2 * (2 * pmI (joinL (joinL [v] [v] 1 2) [v] 4 0)) := by omega
  rw [this, m2, ← m1]
  rw [Int.mul_assoc]
end Go.Proofs.Ytnccpifdajcejaa
namespace Go.Proofs.Ytnccpifdajcejaa
open Go.RowKit

theorem pcI_bd (vs : List Vx) : -1 ≤ pcI vs ∧ pcI vs ≤ 10 := by
  unfold pcI
  cases hp : patB vs with
  | false => simp
  | true =>
    obtain ⟨_, _, _, _, h0, h10⟩ := patB_parts hp
    rw [if_pos rfl]; omega
theorem txt_size' (n k : Nat) : (txt n k).size = n := by
  first | exact txt_size n k | (unfold txt; rw [ByteArray.size]; simp)
theorem pfT_size (vs : List Vx) : (pfT vs).size ≤ 10 := by
  unfold pfT pfo
  cases hp : patB vs with
  | false => simp
  | true =>
    obtain ⟨_, _, _, _, h0, h10⟩ := patB_parts hp
    simp only [if_true]
    split
    · rw [txt_size']; omega
    · simp

set_option maxHeartbeats 1000000 in
theorem spec_FoldsSwapN (s : ByteArray) (w : World) (hs : s.size ≤ 1000) :
    Calls Try.prog 80 #[.string s] w fun e w' => (∃ t : ByteArray, e = .returned (.string t) ∧ t.size = s.size) ∧ w = w' := by
  go_enter Try.func80, Try.ntmps80
  go_wp2_with fail
  go_loop [3, 4] (fun s3 s4 => ∃ (k : Nat) (t : ByteArray), k ≤ s.size ∧ s4 = .int .i64 k ∧ s3 = .string t ∧ t.size ≤ 1000 ∧ Hid (t.size = k)) (fun _ s4 => s.size - (intOf s4).toNat)
  case atStart => exact ⟨0, _, Nat.zero_le _, rfl, rfl, by show 0 ≤ 1000; omega, rfl⟩
  case round =>
    obtain ⟨k, t, hk, rfl, rfl, ht, HT⟩ := hrel
    by_cases hlt : k < s.size
    · have k1 : (k : Int) < (s.size : Int) := by omega
      have k0 : (0 : Int) ≤ (k : Int) := by omega
      have k2 : (k : Int) ≤ (s.size : Int) := by omega
      have k3 : (k : Int) + 1 ≤ (s.size : Int) := by omega
      have k4 : (k : Int) ≤ (k : Int) + 1 := by omega
      have hx1 : (s.extract k (k + 1)).size = 1 := by rw [ByteArray.size_extract]; omega
      have a1 : ∀ W, (Op.stringOp .add t (ByteArray.mk #[86])).run Try.prog W = .ok (.string (t ++ ByteArray.mk #[86])) W := fun W => run_string_add_sum W _ _ (by show t.size + 1 ≤ _; omega)
      have a2 : ∀ W, (Op.stringOp .add t (ByteArray.mk #[77])).run Try.prog W = .ok (.string (t ++ ByteArray.mk #[77])) W := fun W => run_string_add_sum W _ _ (by show t.size + 1 ≤ _; omega)
      have a3 : ∀ W, (Op.stringOp .add t (s.extract k (k + 1))).run Try.prog W = .ok (.string (t ++ s.extract k (k + 1))) W := fun W => run_string_add_sum W _ _ (by rw [hx1]; omega)
      have z1 : Hid ((t ++ ByteArray.mk #[86]).size = k + 1) := by show _ = _; rw [ByteArray.size_append, HT.out]; rfl
      have z2 : Hid ((t ++ ByteArray.mk #[77]).size = k + 1) := by show _ = _; rw [ByteArray.size_append, HT.out]; rfl
      have z3 : Hid ((t ++ s.extract k (k + 1)).size = k + 1) := by show _ = _; rw [ByteArray.size_append, HT.out, hx1]
      have ht2 : k + 1 ≤ 1000 := by omega
      clear hx1
      obtain ⟨ch, hch⟩ : ∃ ch : UInt8, ch = s[k] := ⟨_, rfl⟩
      by_cases hM : ((ch.toNat : Int) == 77) = true
      · have hM2 : (((s[k] : UInt8).toNat : Int) == 77) = true := by rw [← hch]; exact hM
        clear hM hch
        go_wp2_with fail
        go_round
        case rel => exact ⟨k + 1, _, by omega, by go_num, rfl, by rw [z1.out]; exact ht2, z1⟩
        case measure => simp [intOf]; omega
      · have hM2 : (((s[k] : UInt8).toNat : Int) == 77) = false := by rw [← hch]; simpa using hM
        by_cases hV : ((ch.toNat : Int) == 86) = true
        · have hV2 : (((s[k] : UInt8).toNat : Int) == 86) = true := by rw [← hch]; exact hV
          clear hM hV hch
          go_wp2_with fail
          go_round
          case rel => exact ⟨k + 1, _, by omega, by go_num, rfl, by rw [z2.out]; exact ht2, z2⟩
          case measure => simp [intOf]; omega
        · have hV2 : (((s[k] : UInt8).toNat : Int) == 86) = false := by rw [← hch]; simpa using hV
          clear hM hV hch
          go_wp2_with fail
          go_round
          case rel => exact ⟨k + 1, _, by omega, by go_num, rfl, by rw [z3.out]; exact ht2, z3⟩
          case measure => simp [intOf]; omega
    · obtain rfl : k = s.size := by omega
      go_wp2_with fail
      go_ret
      exact ⟨⟨t, rfl, HT.out⟩, rfl⟩

/-- a drawn list of vertices and a text -/
def FoldR (w : World) (r : Nat) (A : Option Addr) (cap : Nat) (bs : List UInt8) (q : Nat) (e : Ending) (w' : World) : Prop :=
  ∃ (B : Option Addr) (vs : List Vx) (c : Nat) (s : ByteArray) (q' : Nat), e = .returned (.tuple #[.slice B vs.length c, .string s]) ∧ VertsF w' w.heap.size B vs ∧ vs.length ≤ 2 ∧ vs.length ≤ c ∧ c ≤ maxLen ∧ (∀ v ∈ vs, v.1.length ≤ 4 ∧ v.2.length ≤ 4) ∧ s.size ≤ 20 ∧ q' ≤ q + 2000 ∧ Rd w' r A cap bs q' ∧ w.grownBy w' (some r)
set_option maxHeartbeats 2000000 in
theorem spec_l92Folded (w : World) (r : Nat) (A : Option Addr) (cap : Nat) (bs : List UInt8) (q : Nat) (h : Rd w r A cap bs q) (hq : q ≤ 400000) :
    Calls Try.prog 65 #[ptr r] w (FoldR w r A cap bs q) := by
  have hr := h.blk.lt
  go_enter Try.func65, Try.ntmps65
  go_wp2_with fail
  refine (spec_l92Pattern w r A cap bs q h (by omega)).mono ?_
  rintro e w1 ⟨B, vs, c, q1, rfl, V1, h2, hc, hcm, hlen, hq1, R1, G1⟩
  have HLen := Lib.hid hlen
  have HV1 := Lib.hid V1
  have HR1 := Lib.hid R1
  have HG1 := Lib.hid G1
  have hpt := pfT_size vs
  obtain ⟨ft, hft⟩ : ∃ ft, ft = pfT vs := ⟨_, rfl⟩
  obtain ⟨fb, hfb⟩ : ∃ fb, fb = (pfo vs).isSome := ⟨_, rfl⟩
  rw [← hft] at hpt
  have HFt := Lib.hid hft
  have HFb := Lib.hid hfb
  clear hlen V1 R1 G1 hft hfb
  go_wp2_with fail
  refine (spec_PatternFirst B c vs w1 HV1.out.verts (by unfold maxLen; omega)).mono ?_
  rintro e w2 ⟨rfl, hb2⟩
  rw [← HFt.out, ← HFb.out]
  have HV2 := Lib.hid (HV1.out.below hb2)
  have HR2 := Lib.hid (HR1.out.below hb2 HR1.out.blk.lt)
  have HG2 := Lib.hid (grown_below HG1.out (hb2.mono HG1.out.size))
  clear HV1 HR1 HG1 hb2 HFt HFb
  cases fb with
  | false =>
    obtain ⟨wT, rfl⟩ : ∃ wT, wT = w2 := ⟨_, rfl⟩
    have VT := HV2
    have RT := HR2
    have GT := HG2
    clear HV2 HR2 HG2
    go_wp2_with fail
    refine (spec_pick wT r A cap bs q1 20 RT.out (by omega) (by omega)).mono ?_
    rintro e w8 ⟨x, rfl, hx, R8, g8⟩
    have G8 := GT.out.trans g8
    have V8 := VT.out.to (some r) g8 (fun b e => by cases e; exact hr)
    have HV8 := Lib.hid V8
    have HG8 := Lib.hid G8
    have HR8 := Lib.hid R8
    clear V8 G8 R8 g8 VT GT RT
    by_cases hx0 : x = 0
    · subst hx0
      go_wp2_with fail
      refine (spec_l91Any w8 r A cap bs (q1 + 1) HR8.out (by omega)).mono ?_
      rintro e w9 ⟨s9, q9, rfl, hs9, hq9, R9, g9⟩
      have HV9 := Lib.hid (HV8.out.to (some r) g9 (fun b e => by cases e; exact hr))
      have HG9 := Lib.hid (HG8.out.trans g9)
      clear HV8 HG8 HR8 g9
      go_wp2_with fail
      go_ret2
      exact ⟨B, vs, c, s9, q9, rfl, HV9.out, h2, hc, hcm, HLen.out, by omega, by omega, R9, HG9.out⟩
    · have dx : ((x : Int) == 0) = false := by rw [beq_eq_false_iff_ne]; omega
      go_wp2_with fail
      refine (spec_PatternCreases B c vs w8 HV8.out.verts (by unfold maxLen; omega)).mono ?_
      rintro e w9 ⟨rfl, hb9⟩
      have HV9 := Lib.hid (HV8.out.below hb9)
      have HR9 := Lib.hid (HR8.out.below hb9 HR8.out.blk.lt)
      have HG9 := Lib.hid (grown_below HG8.out (hb9.mono HG8.out.size))
      clear HV8 HG8 HR8 hb9
      obtain ⟨pc, hpc⟩ : ∃ pc, pc = pcI vs := ⟨_, rfl⟩
      have hpb : -1 ≤ pc ∧ pc ≤ 10 := by rw [hpc]; exact pcI_bd vs
      rw [← hpc]
      clear hpc
      by_cases hp0 : 0 < pc
      · obtain ⟨m, rfl⟩ : ∃ m : Nat, pc = (m : Int) := ⟨pc.toNat, by omega⟩
        have dm : decide ((0 : Int) < (m : Int)) = true := by simp; omega
        have dm2 : 0 < m := by omega
        go_wp2_with fail
        refine (spec_l91Text w9 r A cap bs (q1 + 1) m HR9.out (by omega) (by omega)).mono ?_
        rintro e w10 ⟨s9, rfl, hs9, R10, g10⟩
        have HV10 := Lib.hid (HV9.out.to (some r) g10 (fun b e => by cases e; exact hr))
        have HG10 := Lib.hid (HG9.out.trans g10)
        clear HV9 HG9 HR9 g10
        go_wp2_with fail
        go_ret2
        exact ⟨B, vs, c, s9, _, rfl, HV10.out, h2, hc, hcm, HLen.out, by omega, by omega, R10, HG10.out⟩
      · have dm : decide ((0 : Int) < pc) = false := by simp; omega
        go_wp2_with fail
        refine (spec_l91Text w9 r A cap bs (q1 + 1) 0 HR9.out (by omega) (by omega)).mono ?_
        rintro e w10 ⟨s9, rfl, hs9, R10, g10⟩
        have HV10 := Lib.hid (HV9.out.to (some r) g10 (fun b e => by cases e; exact hr))
        have HG10 := Lib.hid (HG9.out.trans g10)
        clear HV9 HG9 HR9 g10
        go_wp2_with fail
        go_ret2
        exact ⟨B, vs, c, s9, _, rfl, HV10.out, h2, hc, hcm, HLen.out, by omega, by omega, R10, HG10.out⟩
  | true =>
    go_wp2_with fail
    refine (spec_pick w2 r A cap bs q1 3 HR2.out (by omega) (by omega)).mono ?_
    rintro e w3 ⟨m, rfl, hm, R3, g3⟩
    have HV3 := Lib.hid (HV2.out.to (some r) g3 (fun b e => by cases e; exact hr))
    have HG3 := Lib.hid (HG2.out.trans g3)
    have HR3 := Lib.hid R3
    clear HV2 HR2 HG2 g3 R3
    by_cases hm0 : m = 0
    · subst hm0
      obtain ⟨wT, rfl⟩ : ∃ wT, wT = w3 := ⟨_, rfl⟩
      have VT := HV3
      have RT := HR3
      have GT := HG3
      clear HV3 HR3 HG3
      go_wp2_with fail
      refine (spec_pick wT r A cap bs (q1 + 1) 20 RT.out (by omega) (by omega)).mono ?_
      rintro e w8 ⟨x, rfl, hx, R8, g8⟩
      have G8 := GT.out.trans g8
      have V8 := VT.out.to (some r) g8 (fun b e => by cases e; exact hr)
      have HV8 := Lib.hid V8
      have HG8 := Lib.hid G8
      have HR8 := Lib.hid R8
      clear V8 G8 R8 g8 VT GT RT
      by_cases hx0 : x = 0
      · subst hx0
        go_wp2_with fail
        refine (spec_l91Any w8 r A cap bs ((q1 + 1) + 1) HR8.out (by omega)).mono ?_
        rintro e w9 ⟨s9, q9, rfl, hs9, hq9, R9, g9⟩
        have HV9 := Lib.hid (HV8.out.to (some r) g9 (fun b e => by cases e; exact hr))
        have HG9 := Lib.hid (HG8.out.trans g9)
        clear HV8 HG8 HR8 g9
        go_wp2_with fail
        go_ret2
        exact ⟨B, vs, c, s9, q9, rfl, HV9.out, h2, hc, hcm, HLen.out, by omega, by omega, R9, HG9.out⟩
      · have dx : ((x : Int) == 0) = false := by rw [beq_eq_false_iff_ne]; omega
        go_wp2_with fail
        refine (spec_PatternCreases B c vs w8 HV8.out.verts (by unfold maxLen; omega)).mono ?_
        rintro e w9 ⟨rfl, hb9⟩
        have HV9 := Lib.hid (HV8.out.below hb9)
        have HR9 := Lib.hid (HR8.out.below hb9 HR8.out.blk.lt)
        have HG9 := Lib.hid (grown_below HG8.out (hb9.mono HG8.out.size))
        clear HV8 HG8 HR8 hb9
        obtain ⟨pc, hpc⟩ : ∃ pc, pc = pcI vs := ⟨_, rfl⟩
        have hpb : -1 ≤ pc ∧ pc ≤ 10 := by rw [hpc]; exact pcI_bd vs
        rw [← hpc]
        clear hpc
        by_cases hp0 : 0 < pc
        · obtain ⟨m, rfl⟩ : ∃ m : Nat, pc = (m : Int) := ⟨pc.toNat, by omega⟩
          have dm : decide ((0 : Int) < (m : Int)) = true := by simp; omega
          have dm2 : 0 < m := by omega
          go_wp2_with fail
          refine (spec_l91Text w9 r A cap bs ((q1 + 1) + 1) m HR9.out (by omega) (by omega)).mono ?_
          rintro e w10 ⟨s9, rfl, hs9, R10, g10⟩
          have HV10 := Lib.hid (HV9.out.to (some r) g10 (fun b e => by cases e; exact hr))
          have HG10 := Lib.hid (HG9.out.trans g10)
          clear HV9 HG9 HR9 g10
          go_wp2_with fail
          go_ret2
          exact ⟨B, vs, c, s9, _, rfl, HV10.out, h2, hc, hcm, HLen.out, by omega, by omega, R10, HG10.out⟩
        · have dm : decide ((0 : Int) < pc) = false := by simp; omega
          go_wp2_with fail
          refine (spec_l91Text w9 r A cap bs ((q1 + 1) + 1) 0 HR9.out (by omega) (by omega)).mono ?_
          rintro e w10 ⟨s9, rfl, hs9, R10, g10⟩
          have HV10 := Lib.hid (HV9.out.to (some r) g10 (fun b e => by cases e; exact hr))
          have HG10 := Lib.hid (HG9.out.trans g10)
          clear HV9 HG9 HR9 g10
          go_wp2_with fail
          go_ret2
          exact ⟨B, vs, c, s9, _, rfl, HV10.out, h2, hc, hcm, HLen.out, by omega, by omega, R10, HG10.out⟩
    · have dm : decide ((0 : Int) < (m : Int)) = true := by simp; omega
      have dm2 : 0 < m := by omega
      go_wp2_with fail
      refine (spec_pick w3 r A cap bs (q1 + 1) 3 HR3.out (by omega) (by omega)).mono ?_
      rintro e w4 ⟨x, rfl, hx, R4, g4⟩
      have HV4 := Lib.hid (HV3.out.to (some r) g4 (fun b e => by cases e; exact hr))
      have HG4 := Lib.hid (HG3.out.trans g4)
      have HR4 := Lib.hid R4
      clear HV3 HR3 HG3 g4 R4
      by_cases hx0 : x = 0
      · subst hx0
        go_wp2_with fail
        refine (spec_FoldsSwapN ft w4 (by omega)).mono ?_
        rintro e w' ⟨⟨t, rfl, ht⟩, rfl⟩
        have HT := Lib.hid ht
        clear ht
        go_wp2_with fail
        go_ret2
        exact ⟨B, vs, c, t, _, rfl, HV4.out, h2, hc, hcm, HLen.out, by rw [HT.out]; omega, by omega, HR4.out, HG4.out⟩
      · have dx : ((x : Int) == 0) = false := by rw [beq_eq_false_iff_ne]; omega
        go_wp2_with fail
        go_ret2
        exact ⟨B, vs, c, ft, _, rfl, HV4.out, h2, hc, hcm, HLen.out, by omega, by omega, HR4.out, HG4.out⟩
/-- drawn vertices and a text -/
def DrawnF (w : World) (e : Ending) (w' : World) : Prop :=
  ∃ (B : Option Addr) (vs : List Vx) (c : Nat) (s : ByteArray), e = .returned (.tuple #[.slice B vs.length c, .string s]) ∧ Verts w' B vs ∧ vs.length ≤ 2 ∧ vs.length ≤ c ∧ c ≤ maxLen ∧ (∀ v ∈ vs, v.1.length ≤ 4 ∧ v.2.length ≤ 4) ∧ s.size ≤ 20 ∧ Below w.heap.size w w'
set_option maxHeartbeats 1000000 in
theorem spec_DrawPatternFolds (w : World) (A : Option Addr) (cap : Nat) (bs : List UInt8) (h : Codes w w.heap.size A bs) (hl : bs.length ≤ 1048576) (hcap : bs.length ≤ cap) (hcm : cap ≤ maxLen) :
    Calls Try.prog 40 #[.slice A bs.length cap] w (DrawnF w) := by
  go_enter Try.func40, Try.ntmps40
  go_wp2_with fail
  refine (spec_l6Open w A cap bs h hl hcap hcm).mono ?_
  rintro e w1 ⟨bs', rfl, R1, hb1⟩
  go_wp2_with fail
  refine (spec_l92Folded w1 w.heap.size A cap bs' 0 R1 (by omega)).mono ?_
  rintro e w2 ⟨B, vs, c, s, q, rfl, hV, h2, hc, hcm2, hlen, hs, _, R2, G2⟩
  have HL := Lib.hid hlen
  have hv := hV.verts
  have hb := below_of_grown hb1 G2 (Nat.le_refl _) hb1.size
  clear hlen hV
  go_wp2_with fail
  go_ret2
  exact ⟨B, vs, c, s, rfl, hv, h2, hc, hcm2, HL.out, hs, hb⟩
end Go.Proofs.Ytnccpifdajcejaa
namespace Go.Proofs.Ytnccpifdajcejaa
open Go.RowKit

def eqGoS : List Int → List Int → Bool
  | [], _ => true
  | x :: r, y :: r' => if x = y then eqGoS r r' else false
  | _ :: _, [] => true
theorem eqGoS_eq {xs ys : List Int} (h : xs.length = ys.length) : eqGoS xs ys = decide (xs = ys) := by
  induction xs generalizing ys with
  | nil => cases ys with
    | nil => rfl
    | cons y r => simp at h
  | cons x r ih =>
    cases ys with
    | nil => simp at h
    | cons y r' =>
      rw [eqGoS, ih (by simpa using h)]
      by_cases e : x = y
      · simp [e]
      · simp [e]

set_option maxHeartbeats 1000000 in
theorem laws_sameInts (A A' : Option Addr) (cap cap' : Nat) (xs ys : List Int) (w : World) (h : Ints w A xs) (h' : Ints w A' ys) (hl : xs.length ≤ maxLen) (_hl' : ys.length ≤ maxLen) :
    Calls Try.prog 27 #[.slice A xs.length cap, .slice A' ys.length cap'] w fun e w' => e = .returned (.bool (decide (xs = ys))) ∧ ∃ m, w.drewN m = w' := by
  unfold maxLen at hl
  by_cases e : xs.length = ys.length
  · have d1 : ((xs.length : Int) != (ys.length : Int)) = false := by rw [bne_eq_false_iff_eq]; omega
    have hys : ys.length ≤ xs.length ∧ xs.length ≤ ys.length := by omega
    have E := Lib.hid e
    clear e
    go_enter Try.func27, Try.ntmps27
    go_wp2_with fail
    go_loopg [5] (xs.length + 1) (fun g i wr => ∃ (k m : Nat), k ≤ xs.length ∧ i = .int .i64 k ∧ xs.length - k < g ∧ w.drewN m = wr ∧ Hid (eqGoS xs ys = eqGoS (xs.drop k) (ys.drop k)))
    case atStart => exact ⟨0, 0, Nat.zero_le _, rfl, by omega, rfl, rfl⟩
    case round =>
      obtain ⟨k, m, hk, rfl, hg, rfl, H⟩ := hrel
      cases gk with
      | zero => omega
      | succ g =>
      by_cases hlt : k < xs.length
      · obtain ⟨b, off, x, rfl, hb, HX, hc, _⟩ := h.at_ hlt
        obtain ⟨b', off', y, rfl, hb', HY, hc', _⟩ := h'.at_ (k := k) (by omega)
        have hlt' : k < ys.length := by omega
        have i1 : (k : Int) < (xs.length : Int) := by omega
        have i2 : (k : Int) < (ys.length : Int) := by omega
        have i3 : (0 : Int) ≤ (k : Int) := by omega
        by_cases q : x = y
        · have dq : (x != y) = false := by rw [bne_eq_false_iff_eq]; exact q
          have Q := Lib.hid q
          clear q
          go_wp2_with fail
          go_quiet (fail)
          go_wp2_with fail
          go_roundg g
          case measure => omega
          case rel => exact ⟨k + 1, _, by omega, by go_num, by omega, rfl, H.out.trans (by rw [HX.out, HY.out, eqGoS, if_pos Q.out])⟩
        · have dq : (x != y) = true := by rw [bne_iff_ne]; exact q
          have Q := Lib.hid q
          clear q
          go_wp2_with fail
          go_quiet (fail)
          go_wp2_with fail
          go_ret
          exact ⟨ret_bool (by rw [← eqGoS_eq E.out, H.out, HX.out, HY.out, eqGoS, if_neg Q.out]), _, (World.drewN_drewN _ _ _).symm⟩
      · go_wp2_with fail
        go_ret
        have e : xs.drop k = [] := List.drop_of_length_le (by omega)
        exact ⟨ret_bool (by rw [← eqGoS_eq E.out, H.out, e, eqGoS]), _, rfl⟩
  · have d1 : ((xs.length : Int) != (ys.length : Int)) = true := by rw [bne_iff_ne]; omega
    have E := Lib.hid e
    clear e
    go_enter Try.func27, Try.ntmps27
    go_wp2_with fail
    go_ret
    exact ⟨ret_bool (by rw [decide_eq_false (fun e => E.out (by rw [e]))]), 0, rfl⟩


set_option maxHeartbeats 1000000 in
theorem laws_foldsOf (n k : Nat) (w : World) (hn : n ≤ 100) (hk : k ≤ 1000000000000) :
    Calls Try.prog 38 #[.int .i64 n, .int .i64 k] w fun e w' => e = .returned (.string (txt n k)) ∧ w = w' := by
  go_enter Try.func38, Try.ntmps38
  go_wp2_with fail
  go_loop [1, 5, 6] (fun s1 s5 s6 => ∃ (i r : Nat) (t : ByteArray), i ≤ n ∧ s6 = .int .i64 i ∧ s1 = .int .i64 r ∧ s5 = .string t ∧ r ≤ k ∧ t.size ≤ 100 ∧ Hid (t.size = i) ∧ Hid (t = txt i k) ∧ Hid (r = k / 2 ^ i)) (fun _ _ s6 => n - (intOf s6).toNat)
  case atStart => exact ⟨0, k, _, Nat.zero_le _, rfl, rfl, rfl, Nat.le_refl _, by decide, rfl, rfl, by show k = k / 2 ^ 0; simp⟩
  case round =>
    obtain ⟨i, r, t, hi, rfl, rfl, rfl, hr, hts, HT, HE, HR⟩ := hrel
    have hrn : Hid (r / 2 = k / 2 ^ (i + 1)) := by show _ = _; rw [HR.out, Nat.pow_succ, Nat.div_div_eq_div_mul]
    by_cases hlt : i < n
    · have h63 : (1 : Nat) + t.size ≤ 9223372036854775807 := by omega
      by_cases q : r % 2 = 0
      · have d1 : (((r : Int) % 2) == 0) = true := by simp; omega
        have hb : bitL k i = 77 := by unfold bitL; rw [← HR.out, if_pos q]
        have HB := Lib.hid hb
        have b12 : ∀ W, (Op.stringOp .add (ByteArray.mk #[77]) t).run Try.prog W = .ok (.string (ByteArray.mk #[77] ++ t)) W := fun W => run_string_add_sum W _ _ h63
        clear q hb h63
        go_wp2_with fail
        go_round
        case rel => exact ⟨i + 1, r / 2, _, by omega, by go_num, by go_num, rfl, by omega, by rw [ByteArray.size_append]; have := HT.out; show 1 + t.size ≤ 100; omega, by show _ = _; rw [ByteArray.size_append, HT.out]; show 1 + i = i + 1; omega, by show _ = _; rw [HE.out, ← txt_succ, HB.out], hrn⟩
        case measure => simp [intOf]; omega
      · have d1 : (((r : Int) % 2) == 0) = false := by rw [beq_eq_false_iff_ne]; omega
        have hb : bitL k i = 86 := by unfold bitL; rw [← HR.out, if_neg q]
        have HB := Lib.hid hb
        have b12 : ∀ W, (Op.stringOp .add (ByteArray.mk #[86]) t).run Try.prog W = .ok (.string (ByteArray.mk #[86] ++ t)) W := fun W => run_string_add_sum W _ _ h63
        clear q hb h63
        go_wp2_with fail
        go_round
        case rel => exact ⟨i + 1, r / 2, _, by omega, by go_num, by go_num, rfl, by omega, by rw [ByteArray.size_append]; have := HT.out; show 1 + t.size ≤ 100; omega, by show _ = _; rw [ByteArray.size_append, HT.out]; show 1 + i = i + 1; omega, by show _ = _; rw [HE.out, ← txt_succ, HB.out], hrn⟩
        case measure => simp [intOf]; omega
    · obtain rfl : i = n := by omega
      go_wp2_with fail
      go_ret
      exact ⟨by rw [← HE.out]; rfl, rfl⟩

set_option maxHeartbeats 400000 in
theorem laws_power (n : Nat) (w : World) (hn : n ≤ 40) :
    Calls Try.prog 37 #[.int .i64 n] w fun e w' => e = .returned (.int .i64 ((2 ^ n : Nat) : Int)) ∧ w = w' := by
  go_enter Try.func37, Try.ntmps37
  go_wp2_with fail
  go_loop [3, 4] (fun s3 s4 => ∃ (i p : Nat), i ≤ n ∧ s4 = .int .i64 i ∧ s3 = .int .i64 p ∧ p ≤ 1099511627776 ∧ Hid (p = 2 ^ i)) (fun _ s4 => n - (intOf s4).toNat)
  case atStart => exact ⟨0, 1, Nat.zero_le _, rfl, rfl, by omega, rfl⟩
  case round =>
    obtain ⟨i, p, hi, rfl, rfl, hp, HP⟩ := hrel
    by_cases hlt : i < n
    · have hp2 : 2 * p ≤ 1099511627776 := by
        have h1 : 2 * p = 2 ^ (i + 1) := by rw [HP.out, Nat.pow_succ, Nat.mul_comm]
        have h2 : 2 ^ (i + 1) ≤ 2 ^ 40 := Nat.pow_le_pow_right (by omega) (by omega)
        have h3 : 2 ^ 40 = 1099511627776 := by decide
        omega
      go_wp2_with fail
      go_round
      case rel => exact ⟨i + 1, 2 * p, by omega, by go_num, by go_num, hp2, by show _ = _; rw [HP.out, Nat.pow_succ, Nat.mul_comm]⟩
      case measure => simp [intOf]; omega
    · obtain rfl : i = n := by omega
      go_wp2_with fail
      go_ret
      exact ⟨ret_int (by rw [HP.out]; simp), rfl⟩




end Go.Proofs.Ytnccpifdajcejaa
