/- Patterns joined: creases and folds. No program, no condition. Patterns joined are patterns; a vertex of four creases three times. No program, no condition. The drawn pattern with folds. No condition but sizes. -/
import Derived.Test.YtnccpifdajcejaaFnPatternJoinWithoutP50
import Derived.Test.YtnccpifdajcejaaFnPatternJoinWithoutP41
import Derived.Test.YtnccpifdajcejaaDrawQ
import Derived.Test.YtnccpifdajcejaaDrawA
namespace Go.Proofs.Ytnccpifdajcejaa

theorem vA_ren (f : Nat → Int) (v : Vx) (s : Nat → UInt8) : vA (renV f v) s = vA v (fun k => s (f k).toNat) := by
  unfold vA renV
  simp only [List.map_map]; rfl
theorem aA_ren (f : Nat → Int) (vs : List Vx) (s : Nat → UInt8) : aA (vs.map (renV f)) s = aA vs (fun k => s (f k).toNat) := by
  unfold aA
  rw [List.all_map]
  exact all_congr fun v _ => vA_ren f v s
/-- a renumbered pattern's folds -/
theorem cnt_ren {n N : Nat} {f : Nat → Int} {vs : List Vx} (hb : ∀ v ∈ vs, ∀ c ∈ v.2, 0 ≤ c ∧ c < (n : Int)) (h0 : ∀ k, k < n → 0 ≤ f k ∧ f k < (N : Int)) (hi : ∀ k l, k < n → l < n → f k = f l → k = l) :
    cntF N (aA (vs.map (renV f))) * 2 ^ n = 2 ^ N * cntF n (aA vs) := by
  obtain ⟨q, hq⟩ : ∃ q : List UInt8 → Bool, q = fun l => aA vs (fun k => l.getD k 0) := ⟨_, rfl⟩
  have hd := (aA_dep vs).mono (aA_dep_n hb)
  have hnd : ((List.range n).map fun k => (f k).toNat).Nodup := by
    rw [List.nodup_iff_pairwise_ne, List.pairwise_map]
    refine List.Pairwise.imp_of_mem (fun {a b} ha hb' h => ?_) (List.nodup_iff_pairwise_ne.1 (List.nodup_range (n := n)))
    have ha := List.mem_range.1 ha
    have hb' := List.mem_range.1 hb'
    have h1 := h0 a ha
    have h2 := h0 b hb'
    intro e
    exact h (hi a b ha hb' (by omega))
  have h := cntF_pick (n := N) hnd (fun c hc => by obtain ⟨k, hk, rfl⟩ := List.mem_map.1 hc; have := h0 k (List.mem_range.1 hk); omega) q
  rw [List.length_map, List.length_range, ← cntF_T] at h
  have e1 : cntF N (fun s => q (((List.range n).map fun k => (f k).toNat).map s)) = cntF N (aA (vs.map (renV f))) := by
    refine cntF_congr fun s => ?_
    rw [aA_ren, hq]
    refine hd _ _ fun k hk => ?_
    rw [List.getD_eq_getElem?_getD, List.getElem?_map, List.getElem?_map, List.getElem?_range hk]; rfl
  have e2 : cntF n (fun s => q ((List.range n).map s)) = cntF n (aA vs) := by
    refine cntF_congr fun s => ?_
    rw [hq]
    refine hd _ _ fun k hk => ?_
    rw [List.getD_eq_getElem?_getD, List.getElem?_map, List.getElem?_range hk]; rfl
  rw [e1, e2] at h
  exact h
theorem use_ren {n : Nat} {f : Nat → Int} {vs : List Vx} (hb : ∀ v ∈ vs, ∀ c ∈ v.2, 0 ≤ c ∧ c < (n : Int)) (hi : ∀ k l, k < n → l < n → f k = f l → k = l) {m : Nat} (hm : m < n) : useN (vs.map (renV f)) (f m) = useN vs (m : Int) := by
  induction vs with
  | nil => rfl
  | cons v r ih =>
    rw [List.map_cons, useN, useN, ih fun u hu => hb u (by simp [hu])]
    congr 1
    have : f m ∈ (renV f v).2 ↔ (m : Int) ∈ v.2 := by
      unfold renV
      rw [List.mem_map]
      constructor
      · rintro ⟨c, hc, e⟩
        have h1 := hb v (by simp) c hc
        have := hi c.toNat m (by omega) hm e
        have e2 : c = (m : Int) := by omega
        exact e2 ▸ hc
      · intro hc
        exact ⟨_, hc, by rw [Int.toNat_natCast]⟩
    simp only [this]
theorem use_ren_mem {f : Nat → Int} {vs : List Vx} {z : Int} (h : 0 < useN (vs.map (renV f)) z) : ∃ v ∈ vs, ∃ c ∈ v.2, f c.toNat = z := by
  obtain ⟨u, hu, hz⟩ := useN_pos.1 h
  obtain ⟨v, hv, rfl⟩ := List.mem_map.1 hu
  obtain ⟨c, hc, e⟩ := List.mem_map.1 hz
  exact ⟨v, hv, c, hc, e⟩
theorem numJ_rng {na nb i j : Int} {k : Nat} (hi : 0 ≤ i ∧ i < na) (hj : 0 ≤ j ∧ j < nb) (hk : (k : Int) < nb) : 0 ≤ numJ na i j k ∧ numJ na i j k < na + nb - 1 ∧ (numJ na i j k < na ↔ (k : Int) = j) := by
  unfold numJ
  split
  · omega
  · split <;> omega
theorem numJ_inj {na nb i j : Int} {k l : Nat} (hi : 0 ≤ i ∧ i < na) (hj : 0 ≤ j ∧ j < nb) (hk : (k : Int) < nb) (hl : (l : Int) < nb) (e : numJ na i j k = numJ na i j l) : k = l := by
  unfold numJ at e
  split at e <;> split at e <;> (try split at e) <;> (try split at e) <;> omega
/-- what is known of two patterns that can be joined -/
structure JoinOk (us vs : List Vx) (i j : Int) (na nb : Nat) : Prop where
  pa : patB us = true
  pb : patB vs = true
  ui : useN us i = 1
  uj : useN vs j = 1
  ha : ncr us = (na : Int)
  hb : ncr vs = (nb : Int)
theorem use_bd {vs : List Vx} {n : Nat} (hp : patB vs = true) (hn : ncr vs = (n : Int)) {z : Int} (h : 0 < useN vs z) : 0 ≤ z ∧ z < (n : Int) := by
  obtain ⟨v, hv, hz⟩ := useN_pos.1 h
  have := (pat_bd3 hp v hv).2.2 z hz
  rw [hn] at this
  exact this
theorem use_in {vs : List Vx} {n : Nat} (hp : patB vs = true) (hn : ncr vs = (n : Int)) {k : Nat} (h : k < n) : 1 ≤ useN vs (k : Int) ∧ useN vs (k : Int) ≤ 2 := by
  obtain ⟨_, _, _, huse, _, _⟩ := patB_parts hp
  rw [hn, Int.toNat_natCast] at huse
  exact usesOk_iff.1 huse k h
theorem bd_n {vs : List Vx} {n : Nat} (hp : patB vs = true) (hn : ncr vs = (n : Int)) : ∀ v ∈ vs, ∀ c ∈ v.2, 0 ≤ c ∧ c < (n : Int) := fun v hv c hc => by
  have := (pat_bd3 hp v hv).2.2 c hc
  rw [hn] at this
  exact this
namespace JoinOk
variable {us vs : List Vx} {i j : Int} {na nb : Nat}
theorem i_bd (h : JoinOk us vs i j na nb) : 0 ≤ i ∧ i < (na : Int) := use_bd h.pa h.ha (by have := h.ui; omega)
theorem j_bd (h : JoinOk us vs i j na nb) : 0 ≤ j ∧ j < (nb : Int) := use_bd h.pb h.hb (by have := h.uj; omega)
theorem join_eq (h : JoinOk us vs i j na nb) : joinL us vs i j = us ++ vs.map (renV (numJ (na : Int) i j)) := by unfold joinL; rw [h.ha]
theorem inj (h : JoinOk us vs i j na nb) : ∀ k l, k < nb → l < nb → numJ (na : Int) i j k = numJ (na : Int) i j l → k = l := fun _ _ hk hl e => numJ_inj h.i_bd h.j_bd (by omega) (by omega) e
/-- the number of creases -/
theorem ncr_join (h : JoinOk us vs i j na nb) : ncr (joinL us vs i j) = ((na + nb - 1 : Nat) : Int) := by
  have hnb := pat_two h.pb h.hb
  have hna := pat_two h.pa h.ha
  have hib := h.i_bd
  have hjb := h.j_bd
  rw [h.join_eq]
  apply Int.le_antisymm
  · unfold ncr
    rcases ncGo_is 0 (us ++ vs.map (renV (numJ (na : Int) i j))) with e | ⟨v, hv, x, hx, e⟩
    · rw [e]; omega
    · rw [e]
      rcases List.mem_append.1 hv with hv | hv
      · have := bd_n h.pa h.ha v hv x hx
        omega
      · obtain ⟨u, hu, rfl⟩ := List.mem_map.1 hv
        obtain ⟨c, hc, rfl⟩ := List.mem_map.1 hx
        have h1 := bd_n h.pb h.hb u hu c hc
        have h2 := numJ_rng (k := c.toNat) hib hjb (by omega)
        omega
  · obtain ⟨m, hm, hmj⟩ : ∃ m : Nat, m < nb ∧ numJ (na : Int) i j m = (na : Int) + nb - 2 := by
      by_cases e : j = (nb : Int) - 1
      · refine ⟨nb - 2, by omega, ?_⟩
        unfold numJ
        rw [if_neg (by omega), if_pos (by omega)]; omega
      · refine ⟨nb - 1, by omega, ?_⟩
        unfold numJ
        rw [if_neg (by omega), if_neg (by omega)]; omega
    obtain ⟨v, hv, hc⟩ := useN_pos.1 (by have := use_in h.pb h.hb hm; omega : 0 < useN vs (m : Int))
    have := (ncGo_le 0 (us ++ vs.map (renV (numJ (na : Int) i j)))).2 (renV (numJ (na : Int) i j) v) (by simp; exact Or.inr ⟨_, _, hv, rfl⟩) (numJ (na : Int) i j m) (by
      unfold renV
      exact List.mem_map.2 ⟨_, hc, by rw [Int.toNat_natCast]⟩)
    unfold ncr
    omega
/-- the number of folds -/
theorem pm_join (h : JoinOk us vs i j na nb) (hp : patB (joinL us vs i j) = true) : 2 * pmI (joinL us vs i j) = pmI us * pmI vs := by
  have hnb := pat_two h.pb h.hb
  have hna := pat_two h.pa h.ha
  have hib := h.i_bd
  have hjb := h.j_bd
  have hN := h.ncr_join
  rw [pm_cnt hp hN, pm_cnt h.pa h.ha, pm_cnt h.pb h.hb]
  rw [h.join_eq]
  have hba := bd_n h.pa h.ha
  have hbb := bd_n h.pb h.hb
  have hR : ∀ u ∈ vs.map (renV (numJ (na : Int) i j)), ∀ c ∈ u.2, 0 ≤ c ∧ c < ((na + nb - 1 : Nat) : Int) := by
    intro u hu c hc
    obtain ⟨v, hv, rfl⟩ := List.mem_map.1 hu
    obtain ⟨d, hd, rfl⟩ := List.mem_map.1 hc
    have h1 := hbb v hv d hd
    have h2 := numJ_rng (k := d.toNat) hib hjb (by omega)
    omega
  have h1 := cntF_one (n := na + nb - 1) (c := i.toNat) (by omega) (aA_dep us) (aA_dep (vs.map (renV (numJ (na : Int) i j)))) (fun k hk => by have := aA_dep_n hba k hk; omega) (aA_dep_n hR) (by
    rintro k ⟨v, hv, c, hc, rfl⟩ ⟨u, hu, d, hd, e⟩
    have q1 := hba v hv c hc
    obtain ⟨u, hu', rfl⟩ := List.mem_map.1 hu
    obtain ⟨d, hd', rfl⟩ := List.mem_map.1 hd
    have q2 := hbb u hu' d hd'
    have q3 := numJ_rng (k := d.toNat) hib hjb (by omega)
    have q4 := q3.2.2.1 (by omega)
    rw [numJ_at q4] at e
    exact e.symm) (aA_swap _) (aA_swap _)
  have h2 := cnt_ren (N := na + nb - 1) hbb (fun k hk => by have := numJ_rng (k := k) hib hjb (by omega); omega) h.inj
  have h3 := cntF_ext (f := aA us) (m := na) ((aA_dep us).mono (aA_dep_n hba)) (nb - 1)
  rw [show na + (nb - 1) = na + nb - 1 from by omega] at h3
  rw [h3] at h1
  have e : aA (us ++ vs.map (renV (numJ (na : Int) i j))) = fun s => aA us s && aA (vs.map (renV (numJ (na : Int) i j))) s := by
    funext s; unfold aA; rw [List.all_append]
  rw [e]
  obtain ⟨X, hX⟩ : ∃ X, X = cntF (na + nb - 1) (fun s => aA us s && aA (vs.map (renV (numJ (na : Int) i j))) s) := ⟨_, rfl⟩
  obtain ⟨Y, hY⟩ : ∃ Y, Y = cntF (na + nb - 1) (aA (vs.map (renV (numJ (na : Int) i j)))) := ⟨_, rfl⟩
  obtain ⟨a, hA⟩ : ∃ a, a = cntF na (aA us) := ⟨_, rfl⟩
  obtain ⟨b, hB⟩ : ∃ b, b = cntF nb (aA vs) := ⟨_, rfl⟩
  rw [← hX, ← hY, ← hA] at h1
  rw [← hY, ← hB] at h2
  rw [← hX, ← hA, ← hB]
  have hp2 : 2 ^ nb = 2 ^ (nb - 1) * 2 := by rw [← Nat.pow_succ]; congr 1; omega
  have h5 : 2 ^ (na + nb - 1) * (2 ^ (nb - 1) * (2 * X)) = 2 ^ (na + nb - 1) * (2 ^ (nb - 1) * (a * b)) := by
    calc 2 ^ (na + nb - 1) * (2 ^ (nb - 1) * (2 * X)) = (2 ^ (na + nb - 1) * X) * 2 ^ nb := by rw [hp2]; simp only [Nat.mul_assoc, Nat.mul_comm, Nat.mul_left_comm]
      _ = 2 ^ (nb - 1) * a * (Y * 2 ^ nb) := by rw [h1]; simp only [Nat.mul_assoc]
      _ = _ := by rw [h2]; simp only [Nat.mul_assoc, Nat.mul_comm, Nat.mul_left_comm]
  have h6 := Nat.eq_of_mul_eq_mul_left (Nat.two_pow_pos _) (Nat.eq_of_mul_eq_mul_left (Nat.two_pow_pos _) h5)
  rw [← Int.natCast_mul, ← h6]; omega
end JoinOk
end Go.Proofs.Ytnccpifdajcejaa
namespace Go.Proofs.Ytnccpifdajcejaa

theorem map_nodup {α β : Type} {f : α → β} {l : List α} (hn : l.Nodup) (hi : ∀ a b, a ∈ l → b ∈ l → f a = f b → a = b) : (l.map f).Nodup := by
  rw [List.nodup_iff_pairwise_ne, List.pairwise_map]
  exact List.Pairwise.imp_of_mem (fun {a b} ha hb h e => h (hi a b ha hb e)) (List.nodup_iff_pairwise_ne.1 hn)
namespace JoinOk
variable {us vs : List Vx} {i j : Int} {na nb : Nat}
theorem use_left (h : JoinOk us vs i j na nb) {k : Nat} (hk : k < na) : useN (joinL us vs i j) (k : Int) = useN us (k : Int) + (if (k : Int) = i then 1 else 0) := by
  rw [h.join_eq, useN_app]
  congr 1
  have hjb := h.j_bd
  by_cases e : (k : Int) = i
  · obtain ⟨m, hm⟩ : ∃ m : Nat, j = (m : Int) := ⟨j.toNat, by omega⟩
    rw [if_pos e, e]
    have h1 := use_ren (bd_n h.pb h.hb) h.inj (m := m) (by omega)
    rw [numJ_at (i := i) hm.symm, ← hm, h.uj] at h1
    exact h1
  · rw [if_neg e]
    rcases Nat.eq_zero_or_pos (useN (vs.map (renV (numJ (na : Int) i j))) (k : Int)) with h0 | h0
    · exact h0
    · exfalso
      obtain ⟨v, hv, c, hc, e2⟩ := use_ren_mem h0
      have h1 := bd_n h.pb h.hb v hv c hc
      have h2 := numJ_rng (k := c.toNat) h.i_bd hjb (by omega)
      have h3 := h2.2.2.1 (by omega)
      rw [numJ_at h3] at e2
      exact e e2.symm
theorem use_right (h : JoinOk us vs i j na nb) {m : Nat} (hm : m < nb) (hj : (m : Int) ≠ j) : useN (joinL us vs i j) (numJ (na : Int) i j m) = useN vs (m : Int) := by
  rw [h.join_eq, useN_app, use_ren (bd_n h.pb h.hb) h.inj hm]
  have h2 := numJ_rng (k := m) h.i_bd h.j_bd (by omega)
  have : useN us (numJ (na : Int) i j m) = 0 := by
    rcases Nat.eq_zero_or_pos (useN us (numJ (na : Int) i j m)) with h0 | h0
    · exact h0
    · exfalso
      have := use_bd h.pa h.ha h0
      exact hj (h2.2.2.1 this.2)
  omega
/-- two patterns joined are a pattern -/
theorem pat (h : JoinOk us vs i j na nb) (hl : us.length + vs.length ≤ 3) (hn : na + nb ≤ 11) : patB (joinL us vs i j) = true := by
  have hN := h.ncr_join
  have hib := h.i_bd
  have hjb := h.j_bd
  obtain ⟨a1, a2, a3, _, _, _⟩ := patB_parts h.pa
  obtain ⟨b1, b2, b3, _, _, _⟩ := patB_parts h.pb
  have hall : (joinL us vs i j).all vtxB = true := by
    rw [h.join_eq, List.all_append, a3, Bool.true_and, List.all_eq_true]
    intro u hu
    obtain ⟨v, hv, rfl⟩ := List.mem_map.1 hu
    have hv1 := List.all_eq_true.1 b3 v hv
    have hb := bd_n h.pb h.hb v hv
    unfold vtxB at hv1 ⊢
    simp only [Bool.and_eq_true, decide_eq_true_eq] at hv1 ⊢
    refine ⟨⟨hv1.1.1, ?_⟩, ?_⟩
    · unfold renV; rw [List.length_map]; exact hv1.1.2
    · rw [crB_iff] at hv1 ⊢
      unfold renV
      constructor
      · intro x hx
        obtain ⟨c, hc, rfl⟩ := List.mem_map.1 hx
        have h1 := hb c hc
        have h2 := numJ_rng (k := c.toNat) hib hjb (by omega)
        omega
      · refine map_nodup hv1.2.2 fun a b ha hb' e => ?_
        have h1 := hb a ha
        have h2 := hb b hb'
        have := h.inj a.toNat b.toNat (by omega) (by omega) e
        omega
  unfold patB
  rw [hall, hN, Int.toNat_natCast, joinL_len, decide_eq_true (by omega), decide_eq_true hl]
  have : usesOk (joinL us vs i j) (na + nb - 1) = true := by
    rw [usesOk_iff]
    intro k hk
    by_cases hka : k < na
    · rw [h.use_left hka]
      have := use_in h.pa h.ha hka
      by_cases e : (k : Int) = i
      · rw [if_pos e, e, h.ui]; omega
      · rw [if_neg e]; omega
    · obtain ⟨m, hm, hmj, e⟩ : ∃ m : Nat, m < nb ∧ (m : Int) ≠ j ∧ numJ (na : Int) i j m = (k : Int) := by
        by_cases e : ((k - na : Nat) : Int) < j
        · refine ⟨k - na, by omega, by omega, ?_⟩
          unfold numJ
          rw [if_neg (by omega), if_pos (by omega)]; omega
        · refine ⟨k - na + 1, by omega, by omega, ?_⟩
          unfold numJ
          rw [if_neg (by omega), if_neg (by omega)]; omega
      rw [← e, h.use_right hm hmj]
      exact use_in h.pb h.hb hm
  rw [this]; rfl
theorem joinB_eq (h : JoinOk us vs i j na nb) (hl : us.length + vs.length ≤ 3) (hn : na + nb ≤ 11) : joinB us vs i j = true ∧ jR us vs i j = joinL us vs i j := by
  have : joinB us vs i j = true := by rw [joinB_yes h.pa h.pb h.ui h.uj]; exact h.pat hl hn
  exact ⟨this, by unfold jR; rw [this, if_pos rfl]⟩
end JoinOk
/-- a chain of three vertices of four creases -/
theorem chain {v : Vx} (hp : patB [v] = true) (h4 : v.1.length = 4) :
    ∃ two three : List Vx, joinB [v] [v] 1 2 = true ∧ jR [v] [v] 1 2 = two ∧ two.length = 2 ∧ joinB two [v] 4 0 = true ∧ jR two [v] 4 0 = three ∧ three.length = 3 ∧ pcI three = 10 ∧ 4 * pmI three = pmI [v] * pmI [v] * pmI [v] := by
  obtain ⟨n, hn, _, _⟩ := pat_num hp
  have hs := pat_sum hp hn
  have hu1 : ∀ k : Nat, k < n → useN [v] (k : Int) = 1 := by
    intro k hk
    have := use_in hp hn hk
    have h2 : useN [v] (k : Int) ≤ 1 := by rw [useN, useN]; split <;> omega
    omega
  have hi : innerTo [v] n = [] := by
    have : ∀ k, k ≤ n → innerTo [v] k = [] := by
      intro k
      induction k with
      | zero => intro _; rfl
      | succ k ih => intro hk; rw [innerTo_no (by rw [hu1 k (by omega)]; omega), ih (by omega)]
    exact this n (Nat.le_refl n)
  rw [hi] at hs
  have e4 : n = 4 := by have : sumA [v] = v.1.length + 0 := rfl; simp at hs; omega
  subst e4
  have J1 : JoinOk [v] [v] 1 2 4 4 := ⟨hp, hp, hu1 1 (by omega), hu1 2 (by omega), hn, hn⟩
  obtain ⟨q1, q2⟩ := J1.joinB_eq (by simp) (by omega)
  have hp2 := J1.pat (by simp) (by omega)
  have hn2 := J1.ncr_join
  have hu4 : useN (joinL [v] [v] 1 2) 4 = 1 := by
    have h := J1.use_right (m := 0) (by omega) (by omega)
    have e : numJ ((4 : Nat) : Int) 1 2 0 = 4 := by decide
    rw [e] at h
    rw [h]; exact hu1 0 (by omega)
  have J2 : JoinOk (joinL [v] [v] 1 2) [v] 4 0 7 4 := ⟨hp2, hp, hu4, hu1 0 (by omega), hn2, hn⟩
  have hl2 : (joinL [v] [v] 1 2).length = 2 := by rw [joinL_len]; rfl
  obtain ⟨q3, q4⟩ := J2.joinB_eq (by rw [hl2]; simp) (by omega)
  have hp3 := J2.pat (by rw [hl2]; simp) (by omega)
  have hn3 := J2.ncr_join
  refine ⟨_, _, q1, q2, hl2, q3, q4, by rw [joinL_len, hl2]; rfl, by unfold pcI; rw [hp3, if_pos rfl, hn3]; rfl, ?_⟩
  have m1 := J1.pm_join hp2
  have m2 := J2.pm_join hp3
  have : 4 * pmI (joinL (joinL [v] [v] 1 2) [v] 4 0) = 2 * (2 * pmI (joinL (joinL [v] [v] 1 2) [v] 4 0)) := by omega
  rw [this, m2, ← m1]
  rw [Int.mul_assoc]
end Go.Proofs.Ytnccpifdajcejaa
namespace Go.Proofs.Ytnccpifdajcejaa
open Go.RowKit

theorem pcI_bd (vs : List Vx) : -1 ≤ pcI vs ∧ pcI vs ≤ 10 := by
  unfold pcI
  cases hp : patB vs with
  | false => simp
  | true =>
    obtain ⟨_, _, _, _, h0, h10⟩ := patB_parts hp
    rw [if_pos rfl]; omega
theorem txt_size' (n k : Nat) : (txt n k).size = n := by
  first | exact txt_size n k | (unfold txt; rw [ByteArray.size]; simp)
theorem pfT_size (vs : List Vx) : (pfT vs).size ≤ 10 := by
  unfold pfT pfo
  cases hp : patB vs with
  | false => simp
  | true =>
    obtain ⟨_, _, _, _, h0, h10⟩ := patB_parts hp
    simp only [if_true]
    split
    · rw [txt_size']; omega
    · simp

set_option maxHeartbeats 1000000 in
theorem spec_FoldsSwapN (s : ByteArray) (w : World) (hs : s.size ≤ 1000) :
    Calls Try.prog 80 #[.string s] w fun e w' => (∃ t : ByteArray, e = .returned (.string t) ∧ t.size = s.size) ∧ w = w' := by
  go_enter Try.func80, Try.ntmps80
  go_wp2_with fail
  go_loop [3, 4] (fun s3 s4 => ∃ (k : Nat) (t : ByteArray), k ≤ s.size ∧ s4 = .int .i64 k ∧ s3 = .string t ∧ t.size ≤ 1000 ∧ Hid (t.size = k)) (fun _ s4 => s.size - (intOf s4).toNat)
  case atStart => exact ⟨0, _, Nat.zero_le _, rfl, rfl, by show 0 ≤ 1000; omega, rfl⟩
  case round =>
    obtain ⟨k, t, hk, rfl, rfl, ht, HT⟩ := hrel
    by_cases hlt : k < s.size
    · have k1 : (k : Int) < (s.size : Int) := by omega
      have k0 : (0 : Int) ≤ (k : Int) := by omega
      have k2 : (k : Int) ≤ (s.size : Int) := by omega
      have k3 : (k : Int) + 1 ≤ (s.size : Int) := by omega
      have k4 : (k : Int) ≤ (k : Int) + 1 := by omega
      have hx1 : (s.extract k (k + 1)).size = 1 := by rw [ByteArray.size_extract]; omega
      have a1 : ∀ W, (Op.stringOp .add t (ByteArray.mk #[86])).run Try.prog W = .ok (.string (t ++ ByteArray.mk #[86])) W := fun W => run_string_add_sum W _ _ (by show t.size + 1 ≤ _; omega)
      have a2 : ∀ W, (Op.stringOp .add t (ByteArray.mk #[77])).run Try.prog W = .ok (.string (t ++ ByteArray.mk #[77])) W := fun W => run_string_add_sum W _ _ (by show t.size + 1 ≤ _; omega)
      have a3 : ∀ W, (Op.stringOp .add t (s.extract k (k + 1))).run Try.prog W = .ok (.string (t ++ s.extract k (k + 1))) W := fun W => run_string_add_sum W _ _ (by rw [hx1]; omega)
      have z1 : Hid ((t ++ ByteArray.mk #[86]).size = k + 1) := by show _ = _; rw [ByteArray.size_append, HT.out]; rfl
      have z2 : Hid ((t ++ ByteArray.mk #[77]).size = k + 1) := by show _ = _; rw [ByteArray.size_append, HT.out]; rfl
      have z3 : Hid ((t ++ s.extract k (k + 1)).size = k + 1) := by show _ = _; rw [ByteArray.size_append, HT.out, hx1]
      have ht2 : k + 1 ≤ 1000 := by omega
      clear hx1
      obtain ⟨ch, hch⟩ : ∃ ch : UInt8, ch = s[k] := ⟨_, rfl⟩
      by_cases hM : ((ch.toNat : Int) == 77) = true
      · have hM2 : (((s[k] : UInt8).toNat : Int) == 77) = true := by rw [← hch]; exact hM
        clear hM hch
        go_wp2_with fail
        go_round
        case rel => exact ⟨k + 1, _, by omega, by go_num, rfl, by rw [z1.out]; exact ht2, z1⟩
        case measure => simp [intOf]; omega
      · have hM2 : (((s[k] : UInt8).toNat : Int) == 77) = false := by rw [← hch]; simpa using hM
        by_cases hV : ((ch.toNat : Int) == 86) = true
        · have hV2 : (((s[k] : UInt8).toNat : Int) == 86) = true := by rw [← hch]; exact hV
          clear hM hV hch
          go_wp2_with fail
          go_round
          case rel => exact ⟨k + 1, _, by omega, by go_num, rfl, by rw [z2.out]; exact ht2, z2⟩
          case measure => simp [intOf]; omega
        · have hV2 : (((s[k] : UInt8).toNat : Int) == 86) = false := by rw [← hch]; simpa using hV
          clear hM hV hch
          go_wp2_with fail
          go_round
          case rel => exact ⟨k + 1, _, by omega, by go_num, rfl, by rw [z3.out]; exact ht2, z3⟩
          case measure => simp [intOf]; omega
    · obtain rfl : k = s.size := by omega
      go_wp2_with fail
      go_ret
      exact ⟨⟨t, rfl, HT.out⟩, rfl⟩

/-- a drawn list of vertices and a text -/
def FoldR (w : World) (r : Nat) (A : Option Addr) (cap : Nat) (bs : List UInt8) (q : Nat) (e : Ending) (w' : World) : Prop :=
  ∃ (B : Option Addr) (vs : List Vx) (c : Nat) (s : ByteArray) (q' : Nat), e = .returned (.tuple #[.slice B vs.length c, .string s]) ∧ VertsF w' w.heap.size B vs ∧ vs.length ≤ 2 ∧ vs.length ≤ c ∧ c ≤ maxLen ∧ (∀ v ∈ vs, v.1.length ≤ 4 ∧ v.2.length ≤ 4) ∧ s.size ≤ 20 ∧ q' ≤ q + 2000 ∧ Rd w' r A cap bs q' ∧ w.grownBy w' (some r)
set_option maxHeartbeats 2000000 in
theorem spec_l92Folded (w : World) (r : Nat) (A : Option Addr) (cap : Nat) (bs : List UInt8) (q : Nat) (h : Rd w r A cap bs q) (hq : q ≤ 400000) :
    Calls Try.prog 65 #[ptr r] w (FoldR w r A cap bs q) := by
  have hr := h.blk.lt
  go_enter Try.func65, Try.ntmps65
  go_wp2_with fail
  refine (spec_l92Pattern w r A cap bs q h (by omega)).mono ?_
  rintro e w1 ⟨B, vs, c, q1, rfl, V1, h2, hc, hcm, hlen, hq1, R1, G1⟩
  have HLen := Lib.hid hlen
  have HV1 := Lib.hid V1
  have HR1 := Lib.hid R1
  have HG1 := Lib.hid G1
  have hpt := pfT_size vs
  obtain ⟨ft, hft⟩ : ∃ ft, ft = pfT vs := ⟨_, rfl⟩
  obtain ⟨fb, hfb⟩ : ∃ fb, fb = (pfo vs).isSome := ⟨_, rfl⟩
  rw [← hft] at hpt
  have HFt := Lib.hid hft
  have HFb := Lib.hid hfb
  clear hlen V1 R1 G1 hft hfb
  go_wp2_with fail
  refine (spec_PatternFirst B c vs w1 HV1.out.verts (by unfold maxLen; omega)).mono ?_
  rintro e w2 ⟨rfl, hb2⟩
  rw [← HFt.out, ← HFb.out]
  have HV2 := Lib.hid (HV1.out.below hb2)
  have HR2 := Lib.hid (HR1.out.below hb2 HR1.out.blk.lt)
  have HG2 := Lib.hid (grown_below HG1.out (hb2.mono HG1.out.size))
  clear HV1 HR1 HG1 hb2 HFt HFb
  cases fb with
  | false =>
    obtain ⟨wT, rfl⟩ : ∃ wT, wT = w2 := ⟨_, rfl⟩
    have VT := HV2
    have RT := HR2
    have GT := HG2
    clear HV2 HR2 HG2
    go_wp2_with fail
    refine (spec_pick wT r A cap bs q1 20 RT.out (by omega) (by omega)).mono ?_
    rintro e w8 ⟨x, rfl, hx, R8, g8⟩
    have G8 := GT.out.trans g8
    have V8 := VT.out.to (some r) g8 (fun b e => by cases e; exact hr)
    have HV8 := Lib.hid V8
    have HG8 := Lib.hid G8
    have HR8 := Lib.hid R8
    clear V8 G8 R8 g8 VT GT RT
    by_cases hx0 : x = 0
    · subst hx0
      go_wp2_with fail
      refine (spec_l91Any w8 r A cap bs (q1 + 1) HR8.out (by omega)).mono ?_
      rintro e w9 ⟨s9, q9, rfl, hs9, hq9, R9, g9⟩
      have HV9 := Lib.hid (HV8.out.to (some r) g9 (fun b e => by cases e; exact hr))
      have HG9 := Lib.hid (HG8.out.trans g9)
      clear HV8 HG8 HR8 g9
      go_wp2_with fail
      go_ret2
      exact ⟨B, vs, c, s9, q9, rfl, HV9.out, h2, hc, hcm, HLen.out, by omega, by omega, R9, HG9.out⟩
    · have dx : ((x : Int) == 0) = false := by rw [beq_eq_false_iff_ne]; omega
      go_wp2_with fail
      refine (spec_PatternCreases B c vs w8 HV8.out.verts (by unfold maxLen; omega)).mono ?_
      rintro e w9 ⟨rfl, hb9⟩
      have HV9 := Lib.hid (HV8.out.below hb9)
      have HR9 := Lib.hid (HR8.out.below hb9 HR8.out.blk.lt)
      have HG9 := Lib.hid (grown_below HG8.out (hb9.mono HG8.out.size))
      clear HV8 HG8 HR8 hb9
      obtain ⟨pc, hpc⟩ : ∃ pc, pc = pcI vs := ⟨_, rfl⟩
      have hpb : -1 ≤ pc ∧ pc ≤ 10 := by rw [hpc]; exact pcI_bd vs
      rw [← hpc]
      clear hpc
      by_cases hp0 : 0 < pc
      · obtain ⟨m, rfl⟩ : ∃ m : Nat, pc = (m : Int) := ⟨pc.toNat, by omega⟩
        have dm : decide ((0 : Int) < (m : Int)) = true := by simp; omega
        have dm2 : 0 < m := by omega
        go_wp2_with fail
        refine (spec_l91Text w9 r A cap bs (q1 + 1) m HR9.out (by omega) (by omega)).mono ?_
        rintro e w10 ⟨s9, rfl, hs9, R10, g10⟩
        have HV10 := Lib.hid (HV9.out.to (some r) g10 (fun b e => by cases e; exact hr))
        have HG10 := Lib.hid (HG9.out.trans g10)
        clear HV9 HG9 HR9 g10
        go_wp2_with fail
        go_ret2
        exact ⟨B, vs, c, s9, _, rfl, HV10.out, h2, hc, hcm, HLen.out, by omega, by omega, R10, HG10.out⟩
      · have dm : decide ((0 : Int) < pc) = false := by simp; omega
        go_wp2_with fail
        refine (spec_l91Text w9 r A cap bs (q1 + 1) 0 HR9.out (by omega) (by omega)).mono ?_
        rintro e w10 ⟨s9, rfl, hs9, R10, g10⟩
        have HV10 := Lib.hid (HV9.out.to (some r) g10 (fun b e => by cases e; exact hr))
        have HG10 := Lib.hid (HG9.out.trans g10)
        clear HV9 HG9 HR9 g10
        go_wp2_with fail
        go_ret2
        exact ⟨B, vs, c, s9, _, rfl, HV10.out, h2, hc, hcm, HLen.out, by omega, by omega, R10, HG10.out⟩
  | true =>
    go_wp2_with fail
    refine (spec_pick w2 r A cap bs q1 3 HR2.out (by omega) (by omega)).mono ?_
    rintro e w3 ⟨m, rfl, hm, R3, g3⟩
    have HV3 := Lib.hid (HV2.out.to (some r) g3 (fun b e => by cases e; exact hr))
    have HG3 := Lib.hid (HG2.out.trans g3)
    have HR3 := Lib.hid R3
    clear HV2 HR2 HG2 g3 R3
    by_cases hm0 : m = 0
    · subst hm0
      obtain ⟨wT, rfl⟩ : ∃ wT, wT = w3 := ⟨_, rfl⟩
      have VT := HV3
      have RT := HR3
      have GT := HG3
      clear HV3 HR3 HG3
      go_wp2_with fail
      refine (spec_pick wT r A cap bs (q1 + 1) 20 RT.out (by omega) (by omega)).mono ?_
      rintro e w8 ⟨x, rfl, hx, R8, g8⟩
      have G8 := GT.out.trans g8
      have V8 := VT.out.to (some r) g8 (fun b e => by cases e; exact hr)
      have HV8 := Lib.hid V8
      have HG8 := Lib.hid G8
      have HR8 := Lib.hid R8
      clear V8 G8 R8 g8 VT GT RT
      by_cases hx0 : x = 0
      · subst hx0
        go_wp2_with fail
        refine (spec_l91Any w8 r A cap bs ((q1 + 1) + 1) HR8.out (by omega)).mono ?_
        rintro e w9 ⟨s9, q9, rfl, hs9, hq9, R9, g9⟩
        have HV9 := Lib.hid (HV8.out.to (some r) g9 (fun b e => by cases e; exact hr))
        have HG9 := Lib.hid (HG8.out.trans g9)
        clear HV8 HG8 HR8 g9
        go_wp2_with fail
        go_ret2
        exact ⟨B, vs, c, s9, q9, rfl, HV9.out, h2, hc, hcm, HLen.out, by omega, by omega, R9, HG9.out⟩
      · have dx : ((x : Int) == 0) = false := by rw [beq_eq_false_iff_ne]; omega
        go_wp2_with fail
        refine (spec_PatternCreases B c vs w8 HV8.out.verts (by unfold maxLen; omega)).mono ?_
        rintro e w9 ⟨rfl, hb9⟩
        have HV9 := Lib.hid (HV8.out.below hb9)
        have HR9 := Lib.hid (HR8.out.below hb9 HR8.out.blk.lt)
        have HG9 := Lib.hid (grown_below HG8.out (hb9.mono HG8.out.size))
        clear HV8 HG8 HR8 hb9
        obtain ⟨pc, hpc⟩ : ∃ pc, pc = pcI vs := ⟨_, rfl⟩
        have hpb : -1 ≤ pc ∧ pc ≤ 10 := by rw [hpc]; exact pcI_bd vs
        rw [← hpc]
        clear hpc
        by_cases hp0 : 0 < pc
        · obtain ⟨m, rfl⟩ : ∃ m : Nat, pc = (m : Int) := ⟨pc.toNat, by omega⟩
          have dm : decide ((0 : Int) < (m : Int)) = true := by simp; omega
          have dm2 : 0 < m := by omega
          go_wp2_with fail
          refine (spec_l91Text w9 r A cap bs ((q1 + 1) + 1) m HR9.out (by omega) (by omega)).mono ?_
          rintro e w10 ⟨s9, rfl, hs9, R10, g10⟩
          have HV10 := Lib.hid (HV9.out.to (some r) g10 (fun b e => by cases e; exact hr))
          have HG10 := Lib.hid (HG9.out.trans g10)
          clear HV9 HG9 HR9 g10
          go_wp2_with fail
          go_ret2
          exact ⟨B, vs, c, s9, _, rfl, HV10.out, h2, hc, hcm, HLen.out, by omega, by omega, R10, HG10.out⟩
        · have dm : decide ((0 : Int) < pc) = false := by simp; omega
          go_wp2_with fail
          refine (spec_l91Text w9 r A cap bs ((q1 + 1) + 1) 0 HR9.out (by omega) (by omega)).mono ?_
          rintro e w10 ⟨s9, rfl, hs9, R10, g10⟩
          have HV10 := Lib.hid (HV9.out.to (some r) g10 (fun b e => by cases e; exact hr))
          have HG10 := Lib.hid (HG9.out.trans g10)
          clear HV9 HG9 HR9 g10
          go_wp2_with fail
          go_ret2
          exact ⟨B, vs, c, s9, _, rfl, HV10.out, h2, hc, hcm, HLen.out, by omega, by omega, R10, HG10.out⟩
    · have dm : decide ((0 : Int) < (m : Int)) = true := by simp; omega
      have dm2 : 0 < m := by omega
      go_wp2_with fail
      refine (spec_pick w3 r A cap bs (q1 + 1) 3 HR3.out (by omega) (by omega)).mono ?_
      rintro e w4 ⟨x, rfl, hx, R4, g4⟩
      have HV4 := Lib.hid (HV3.out.to (some r) g4 (fun b e => by cases e; exact hr))
      have HG4 := Lib.hid (HG3.out.trans g4)
      have HR4 := Lib.hid R4
      clear HV3 HR3 HG3 g4 R4
      by_cases hx0 : x = 0
      · subst hx0
        go_wp2_with fail
        refine (spec_FoldsSwapN ft w4 (by omega)).mono ?_
        rintro e w' ⟨⟨t, rfl, ht⟩, rfl⟩
        have HT := Lib.hid ht
        clear ht
        go_wp2_with fail
        go_ret2
        exact ⟨B, vs, c, t, _, rfl, HV4.out, h2, hc, hcm, HLen.out, by rw [HT.out]; omega, by omega, HR4.out, HG4.out⟩
      · have dx : ((x : Int) == 0) = false := by rw [beq_eq_false_iff_ne]; omega
        go_wp2_with fail
        go_ret2
        exact ⟨B, vs, c, ft, _, rfl, HV4.out, h2, hc, hcm, HLen.out, by omega, by omega, HR4.out, HG4.out⟩
/-- drawn vertices and a text -/
def DrawnF (w : World) (e : Ending) (w' : World) : Prop :=
  ∃ (B : Option Addr) (vs : List Vx) (c : Nat) (s : ByteArray), e = .returned (.tuple #[.slice B vs.length c, .string s]) ∧ Verts w' B vs ∧ vs.length ≤ 2 ∧ vs.length ≤ c ∧ c ≤ maxLen ∧ (∀ v ∈ vs, v.1.length ≤ 4 ∧ v.2.length ≤ 4) ∧ s.size ≤ 20 ∧ Below w.heap.size w w'
set_option maxHeartbeats 1000000 in
theorem spec_DrawPatternFolds (w : World) (A : Option Addr) (cap : Nat) (bs : List UInt8) (h : Codes w w.heap.size A bs) (hl : bs.length ≤ 1048576) (hcap : bs.length ≤ cap) (hcm : cap ≤ maxLen) :
    Calls Try.prog 40 #[.slice A bs.length cap] w (DrawnF w) := by
  go_enter Try.func40, Try.ntmps40
  go_wp2_with fail
  refine (spec_l6Open w A cap bs h hl hcap hcm).mono ?_
  rintro e w1 ⟨bs', rfl, R1, hb1⟩
  go_wp2_with fail
  refine (spec_l92Folded w1 w.heap.size A cap bs' 0 R1 (by omega)).mono ?_
  rintro e w2 ⟨B, vs, c, s, q, rfl, hV, h2, hc, hcm2, hlen, hs, _, R2, G2⟩
  have HL := Lib.hid hlen
  have hv := hV.verts
  have hb := below_of_grown hb1 G2 (Nat.le_refl _) hb1.size
  clear hlen hV
  go_wp2_with fail
  go_ret2
  exact ⟨B, vs, c, s, rfl, hv, h2, hc, hcm2, HL.out, hs, hb⟩
end Go.Proofs.Ytnccpifdajcejaa
