/- Patterns joined: creases and folds. No program, no condition. A pattern with one inner crease: a new crease in the place of the inner one at its first vertex, and there are twice as many folds. No program, no condition. -/
import Derived.Test.YtnccpifdajcejaaFnPatternInnerP51
import Derived.Test.YtnccpifdajcejaaPatL
namespace Go.Proofs.Ytnccpifdajcejaa

theorem vA_ren (f : Nat → Int) (v : Vx) (s : Nat → UInt8) : vA (renV f v) s = vA v (fun k => s (f k).toNat) := by
  unfold vA renV
  simp only [List.map_map]; rfl
theorem aA_ren (f : Nat → Int) (vs : List Vx) (s : Nat → UInt8) : aA (vs.map (renV f)) s = aA vs (fun k => s (f k).toNat) := by
  unfold aA
  rw [List.all_map]
  exact all_congr fun v _ => vA_ren f v s
/-- a renumbered pattern's folds -/
theorem cnt_ren {n N : Nat} {f : Nat → Int} {vs : List Vx} (hb : ∀ v ∈ vs, ∀ c ∈ v.2, 0 ≤ c ∧ c < (n : Int)) (h0 : ∀ k, k < n → 0 ≤ f k ∧ f k < (N : Int)) (hi : ∀ k l, k < n → l < n → f k = f l → k = l) :
    cntF N (aA (vs.map (renV f))) * 2 ^ n = 2 ^ N * cntF n (aA vs) := by
  obtain ⟨q, hq⟩ : ∃ q : List UInt8 → Bool, q = fun l => aA vs (fun k => l.getD k 0) := ⟨_, rfl⟩
  have hd := (aA_dep vs).mono (aA_dep_n hb)
  have hnd : ((List.range n).map fun k => (f k).toNat).Nodup := by
    rw [List.nodup_iff_pairwise_ne, List.pairwise_map]
    refine List.Pairwise.imp_of_mem (fun {a b} ha hb' h => ?_) (List.nodup_iff_pairwise_ne.1 (List.nodup_range (n := n)))
    have ha := List.mem_range.1 ha
    have hb' := List.mem_range.1 hb'
    have h1 := h0 a ha
    have h2 := h0 b hb'
    intro e
    exact h (hi a b ha hb' (by omega))
  have h := cntF_pick (n := N) hnd (fun c hc => by obtain ⟨k, hk, rfl⟩ := List.mem_map.1 hc; have := h0 k (List.mem_range.1 hk); omega) q
  rw [List.length_map, List.length_range, ← cntF_T] at h
  have e1 : cntF N (fun s => q (((List.range n).map fun k => (f k).toNat).map s)) = cntF N (aA (vs.map (renV f))) := by
    refine cntF_congr fun s => ?_
    rw [aA_ren, hq]
    refine hd _ _ fun k hk => ?_
    rw [List.getD_eq_getElem?_getD, List.getElem?_map, List.getElem?_map, List.getElem?_range hk]; rfl
  have e2 : cntF n (fun s => q ((List.range n).map s)) = cntF n (aA vs) := by
    refine cntF_congr fun s => ?_
    rw [hq]
    refine hd _ _ fun k hk => ?_
    rw [List.getD_eq_getElem?_getD, List.getElem?_map, List.getElem?_range hk]; rfl
  rw [e1, e2] at h
  exact h
theorem use_ren {n : Nat} {f : Nat → Int} {vs : List Vx} (hb : ∀ v ∈ vs, ∀ c ∈ v.2, 0 ≤ c ∧ c < (n : Int)) (hi : ∀ k l, k < n → l < n → f k = f l → k = l) {m : Nat} (hm : m < n) : useN (vs.map (renV f)) (f m) = useN vs (m : Int) := by
  induction vs with
  | nil => rfl
  | cons v r ih =>
    rw [List.map_cons, useN, useN, ih fun u hu => hb u (by simp [hu])]
    congr 1
    have : f m ∈ (renV f v).2 ↔ (m : Int) ∈ v.2 := by
      unfold renV
      rw [List.mem_map]
      constructor
      · rintro ⟨c, hc, e⟩
        have h1 := hb v (by simp) c hc
        have := hi c.toNat m (by omega) hm e
        have e2 : c = (m : Int) := by omega
        exact e2 ▸ hc
      · intro hc
        exact ⟨_, hc, by rw [Int.toNat_natCast]⟩
    simp only [this]
theorem use_ren_mem {f : Nat → Int} {vs : List Vx} {z : Int} (h : 0 < useN (vs.map (renV f)) z) : ∃ v ∈ vs, ∃ c ∈ v.2, f c.toNat = z := by
  obtain ⟨u, hu, hz⟩ := useN_pos.1 h
  obtain ⟨v, hv, rfl⟩ := List.mem_map.1 hu
  obtain ⟨c, hc, e⟩ := List.mem_map.1 hz
  exact ⟨v, hv, c, hc, e⟩
theorem numJ_rng {na nb i j : Int} {k : Nat} (hi : 0 ≤ i ∧ i < na) (hj : 0 ≤ j ∧ j < nb) (hk : (k : Int) < nb) : 0 ≤ numJ na i j k ∧ numJ na i j k < na + nb - 1 ∧ (numJ na i j k < na ↔ (k : Int) = j) := by
  unfold numJ
  split
  · omega
  · split <;> omega
theorem numJ_inj {na nb i j : Int} {k l : Nat} (hi : 0 ≤ i ∧ i < na) (hj : 0 ≤ j ∧ j < nb) (hk : (k : Int) < nb) (hl : (l : Int) < nb) (e : numJ na i j k = numJ na i j l) : k = l := by
  unfold numJ at e
  split at e <;> split at e <;> (try split at e) <;> (try split at e) <;> omega
/-- what is known of two patterns that can be joined -/
structure JoinOk (us vs : List Vx) (i j : Int) (na nb : Nat) : Prop where
  pa : patB us = true
  pb : patB vs = true
  ui : useN us i = 1
  uj : useN vs j = 1
  ha : ncr us = (na : Int)
  hb : ncr vs = (nb : Int)
theorem use_bd {vs : List Vx} {n : Nat} (hp : patB vs = true) (hn : ncr vs = (n : Int)) {z : Int} (h : 0 < useN vs z) : 0 ≤ z ∧ z < (n : Int) := by
  obtain ⟨v, hv, hz⟩ := useN_pos.1 h
  have := (pat_bd3 hp v hv).2.2 z hz
  rw [hn] at this
  exact this
theorem use_in {vs : List Vx} {n : Nat} (hp : patB vs = true) (hn : ncr vs = (n : Int)) {k : Nat} (h : k < n) : 1 ≤ useN vs (k : Int) ∧ useN vs (k : Int) ≤ 2 := by
  obtain ⟨_, _, _, huse, _, _⟩ := patB_parts hp
  rw [hn, Int.toNat_natCast] at huse
  exact usesOk_iff.1 huse k h
theorem bd_n {vs : List Vx} {n : Nat} (hp : patB vs = true) (hn : ncr vs = (n : Int)) : ∀ v ∈ vs, ∀ c ∈ v.2, 0 ≤ c ∧ c < (n : Int) := fun v hv c hc => by
  have := (pat_bd3 hp v hv).2.2 c hc
  rw [hn] at this
  exact this
namespace JoinOk
variable {us vs : List Vx} {i j : Int} {na nb : Nat}
theorem i_bd (h : JoinOk us vs i j na nb) : 0 ≤ i ∧ i < (na : Int) := use_bd h.pa h.ha (by have := h.ui; omega)
theorem j_bd (h : JoinOk us vs i j na nb) : 0 ≤ j ∧ j < (nb : Int) := use_bd h.pb h.hb (by have := h.uj; omega)
theorem join_eq (h : JoinOk us vs i j na nb) : joinL us vs i j = us ++ vs.map (renV (numJ (na : Int) i j)) := by unfold joinL; rw [h.ha]
theorem inj (h : JoinOk us vs i j na nb) : ∀ k l, k < nb → l < nb → numJ (na : Int) i j k = numJ (na : Int) i j l → k = l := fun _ _ hk hl e => numJ_inj h.i_bd h.j_bd (by omega) (by omega) e
/-- the number of creases -/
theorem ncr_join (h : JoinOk us vs i j na nb) : ncr (joinL us vs i j) = ((na + nb - 1 : Nat) : Int) := by
  have hnb := pat_two h.pb h.hb
  have hna := pat_two h.pa h.ha
  have hib := h.i_bd
  have hjb := h.j_bd
  rw [h.join_eq]
  apply Int.le_antisymm
  · unfold ncr
    rcases ncGo_is 0 (us ++ vs.map (renV (numJ (na : Int) i j))) with e | ⟨v, hv, x, hx, e⟩
    · rw [e]; omega
    · rw [e]
      rcases List.mem_append.1 hv with hv | hv
      · have := bd_n h.pa h.ha v hv x hx
        omega
      · obtain ⟨u, hu, rfl⟩ := List.mem_map.1 hv
        obtain ⟨c, hc, rfl⟩ := List.mem_map.1 hx
        have h1 := bd_n h.pb h.hb u hu c hc
        have h2 := numJ_rng (k := c.toNat) hib hjb (by omega)
        omega
  · obtain ⟨m, hm, hmj⟩ : ∃ m : Nat, m < nb ∧ numJ (na : Int) i j m = (na : Int) + nb - 2 := by
      by_cases e : j = (nb : Int) - 1
      · refine ⟨nb - 2, by omega, ?_⟩
        unfold numJ
        rw [if_neg (by omega), if_pos (by omega)]; omega
      · refine ⟨nb - 1, by omega, ?_⟩
        unfold numJ
        rw [if_neg (by omega), if_neg (by omega)]; omega
    obtain ⟨v, hv, hc⟩ := useN_pos.1 (by have := use_in h.pb h.hb hm; omega : 0 < useN vs (m : Int))
    have := (ncGo_le 0 (us ++ vs.map (renV (numJ (na : Int) i j)))).2 (renV (numJ (na : Int) i j) v) (by simp; exact Or.inr ⟨_, _, hv, rfl⟩) (numJ (na : Int) i j m) (by
      unfold renV
      exact List.mem_map.2 ⟨_, hc, by rw [Int.toNat_natCast]⟩)
    unfold ncr
    omega
/-- the number of folds -/
theorem pm_join (h : JoinOk us vs i j na nb) (hp : patB (joinL us vs i j) = true) : 2 * pmI (joinL us vs i j) = pmI us * pmI vs := by
  have hnb := pat_two h.pb h.hb
  have hna := pat_two h.pa h.ha
  have hib := h.i_bd
  have hjb := h.j_bd
  have hN := h.ncr_join
  rw [pm_cnt hp hN, pm_cnt h.pa h.ha, pm_cnt h.pb h.hb]
  rw [h.join_eq]
  have hba := bd_n h.pa h.ha
  have hbb := bd_n h.pb h.hb
  have hR : ∀ u ∈ vs.map (renV (numJ (na : Int) i j)), ∀ c ∈ u.2, 0 ≤ c ∧ c < ((na + nb - 1 : Nat) : Int) := by
    intro u hu c hc
    obtain ⟨v, hv, rfl⟩ := List.mem_map.1 hu
    obtain ⟨d, hd, rfl⟩ := List.mem_map.1 hc
    have h1 := hbb v hv d hd
    have h2 := numJ_rng (k := d.toNat) hib hjb (by omega)
    omega
  have h1 := cntF_one (n := na + nb - 1) (c := i.toNat) (by omega) (aA_dep us) (aA_dep (vs.map (renV (numJ (na : Int) i j)))) (fun k hk => by have := aA_dep_n hba k hk; omega) (aA_dep_n hR) (by
    rintro k ⟨v, hv, c, hc, rfl⟩ ⟨u, hu, d, hd, e⟩
    have q1 := hba v hv c hc
    obtain ⟨u, hu', rfl⟩ := List.mem_map.1 hu
    obtain ⟨d, hd', rfl⟩ := List.mem_map.1 hd
    have q2 := hbb u hu' d hd'
    have q3 := numJ_rng (k := d.toNat) hib hjb (by omega)
    have q4 := q3.2.2.1 (by omega)
    rw [numJ_at q4] at e
    exact e.symm) (aA_swap _) (aA_swap _)
  have h2 := cnt_ren (N := na + nb - 1) hbb (fun k hk => by have := numJ_rng (k := k) hib hjb (by omega); omega) h.inj
  have h3 := cntF_ext (f := aA us) (m := na) ((aA_dep us).mono (aA_dep_n hba)) (nb - 1)
  rw [show na + (nb - 1) = na + nb - 1 from by omega] at h3
  rw [h3] at h1
  have e : aA (us ++ vs.map (renV (numJ (na : Int) i j))) = fun s => aA us s && aA (vs.map (renV (numJ (na : Int) i j))) s := by
    funext s; unfold aA; rw [List.all_append]
  rw [e]
  obtain ⟨X, hX⟩ : ∃ X, X = cntF (na + nb - 1) (fun s => aA us s && aA (vs.map (renV (numJ (na : Int) i j))) s) := ⟨_, rfl⟩
  obtain ⟨Y, hY⟩ : ∃ Y, Y = cntF (na + nb - 1) (aA (vs.map (renV (numJ (na : Int) i j)))) := ⟨_, rfl⟩
  obtain ⟨a, hA⟩ : ∃ a, a = cntF na (aA us) := ⟨_, rfl⟩
  obtain ⟨b, hB⟩ : ∃ b, b = cntF nb (aA vs) := ⟨_, rfl⟩
  rw [← hX, ← hY, ← hA] at h1
  rw [← hY, ← hB] at h2
  rw [← hX, ← hA, ← hB]
  have hp2 : 2 ^ nb = 2 ^ (nb - 1) * 2 := by rw [← Nat.pow_succ]; congr 1; omega
  have h5 : 2 ^ (na + nb - 1) * (2 ^ (nb - 1) * (2 * X)) = 2 ^ (na + nb - 1) * (2 ^ (nb - 1) * (a * b)) := by
    calc 2 ^ (na + nb - 1) * (2 ^ (nb - 1) * (2 * X)) = (2 ^ (na + nb - 1) * X) * 2 ^ nb := by rw [hp2]; simp only [Nat.mul_assoc, Nat.mul_comm, Nat.mul_left_comm]
      _ = 2 ^ (nb - 1) * a * (Y * 2 ^ nb) := by rw [h1]; simp only [Nat.mul_assoc]
      _ = _ := by rw [h2]; simp only [Nat.mul_assoc, Nat.mul_comm, Nat.mul_left_comm]
  have h6 := Nat.eq_of_mul_eq_mul_left (Nat.two_pow_pos _) (Nat.eq_of_mul_eq_mul_left (Nat.two_pow_pos _) h5)
  rw [← Int.natCast_mul, ← h6]; omega
end JoinOk
end Go.Proofs.Ytnccpifdajcejaa
namespace Go.Proofs.Ytnccpifdajcejaa

theorem innerTo_mem {vs : List Vx} {n : Nat} {x : Int} : x ∈ innerTo vs n ↔ ∃ k : Nat, k < n ∧ x = (k : Int) ∧ useN vs (k : Int) = 2 := by
  unfold innerTo
  simp only [List.mem_map, List.mem_filter, List.mem_range, decide_eq_true_eq]
  constructor
  · rintro ⟨k, ⟨h1, h2⟩, rfl⟩; exact ⟨k, h1, rfl, h2⟩
  · rintro ⟨k, h1, rfl, h2⟩; exact ⟨k, ⟨h1, h2⟩, rfl⟩
theorem useN_mid (us r : List Vx) (v : Vx) (k : Int) : useN (us ++ v :: r) k = (if k ∈ v.2 then 1 else 0) + useN (us ++ r) k := by
  rw [useN_app, useN_app, useN]; omega
theorem aA_mid (us r : List Vx) (v : Vx) (s : Nat → UInt8) : aA (us ++ v :: r) s = (vA v s && aA (us ++ r) s) := by
  unfold aA
  rw [List.all_append, List.all_append, List.all_cons, ← Bool.and_assoc, ← Bool.and_assoc, Bool.and_comm (us.all _)]
/-- where the inner crease is met first -/
structure NewOk (us r : List Vx) (v : Vx) (ca cb : List Int) (c : Int) (n : Nat) : Prop where
  hp : patB (us ++ v :: r) = true
  hn : ncr (us ++ v :: r) = (n : Int)
  hi : innerL (us ++ v :: r) = [c]
  hv : v.2 = ca ++ c :: cb
  h9 : n < 10
namespace NewOk
variable {us r : List Vx} {v : Vx} {ca cb : List Int} {c : Int} {n : Nat}
theorem inn (h : NewOk us r v ca cb c n) : innerTo (us ++ v :: r) n = [c] := by
  have := h.hi
  unfold innerL at this
  rw [h.hp, if_pos rfl, h.hn, Int.toNat_natCast] at this
  exact this
theorem use_c (h : NewOk us r v ca cb c n) : useN (us ++ v :: r) c = 2 ∧ 0 ≤ c ∧ c < (n : Int) := by
  have : c ∈ innerTo (us ++ v :: r) n := by rw [h.inn]; simp
  obtain ⟨k, hk, rfl, h2⟩ := innerTo_mem.1 this
  exact ⟨h2, by omega, by omega⟩
theorem use_k (h : NewOk us r v ca cb c n) {k : Nat} (hk : k < n) (hc : (k : Int) ≠ c) : useN (us ++ v :: r) (k : Int) = 1 := by
  have h1 := use_in h.hp h.hn hk
  rcases Nat.lt_or_ge (useN (us ++ v :: r) (k : Int)) 2 with h2 | h2
  · omega
  · have : (k : Int) ∈ innerTo (us ++ v :: r) n := innerTo_mem.2 ⟨k, hk, rfl, by omega⟩
    rw [h.inn] at this
    simp at this
    exact absurd this hc
theorem mem_v (h : NewOk us r v ca cb c n) : c ∈ v.2 := by rw [h.hv]; simp
theorem bd (h : NewOk us r v ca cb c n) : ∀ u ∈ us ++ v :: r, ∀ d ∈ u.2, 0 ≤ d ∧ d < (n : Int) := bd_n h.hp h.hn
theorem in_v (h : NewOk us r v ca cb c n) : v ∈ us ++ v :: r := by simp
theorem nod (h : NewOk us r v ca cb c n) : v.2.length = v.1.length ∧ v.2.Nodup := by
  have := pat_bd3 h.hp v h.in_v
  exact ⟨this.1, this.2.1⟩
/-- the new vertex -/
def nv (v : Vx) (ca cb : List Int) (n : Nat) : Vx := (v.1, ca ++ (n : Int) :: cb)
theorem nv_nodup (h : NewOk us r v ca cb c n) : (ca ++ (n : Int) :: cb).Nodup := by
  have h1 := h.nod.2
  have hb := h.bd v h.in_v
  rw [h.hv] at h1 hb
  rw [List.nodup_append, List.nodup_cons] at h1 ⊢
  refine ⟨h1.1, ⟨?_, h1.2.1.2⟩, ?_⟩
  · intro hm
    have := hb n (by simp [hm])
    omega
  · intro a ha b hbm
    rcases List.mem_cons.1 hbm with rfl | hbm
    · have := hb a (by simp [ha])
      omega
    · exact h1.2.2 a ha b (by simp [hbm])
theorem nv_ok (h : NewOk us r v ca cb c n) : VOk2 (n + 1) (nv v ca cb n) := by
  have h1 := h.nod.1
  have hb := h.bd v h.in_v
  refine ⟨?_, h.nv_nodup, ?_⟩
  · rw [h.hv] at h1; unfold nv; simp at h1 ⊢; omega
  · intro d hd
    unfold nv at hd
    simp only [List.mem_append, List.mem_cons] at hd
    rw [h.hv] at hb
    rcases hd with hd | rfl | hd
    · have := hb d (by simp [hd]); omega
    · omega
    · have := hb d (by simp [hd]); omega
theorem nv_vtx (h : NewOk us r v ca cb c n) : vtxB (nv v ca cb n) = true := by
  obtain ⟨_, _, hall, _, _, _⟩ := patB_parts h.hp
  have hv := vtxB_bd (List.all_eq_true.1 hall v h.in_v)
  have h9 := h.h9
  have ho := h.nv_ok
  unfold vtxB
  have e1 : acB (nv v ca cb n).1 = true := hv.1
  have e3 : crB (nv v ca cb n).2 = true := (crB_iff _).2 ⟨fun x hx => by have := ho.2.2 x hx; omega, ho.2.1⟩
  rw [e1, e3, decide_eq_true ho.1]; rfl
theorem nv_mem (h : NewOk us r v ca cb c n) (k : Int) : k ∈ (nv v ca cb n).2 ↔ k = (n : Int) ∨ (k ∈ v.2 ∧ k ≠ c) := by
  have h1 := h.nod.2
  rw [h.hv] at h1 ⊢
  rw [List.nodup_append, List.nodup_cons] at h1
  unfold nv
  simp only [List.mem_append, List.mem_cons]
  constructor
  · rintro (hk | hk | hk)
    · exact Or.inr ⟨Or.inl hk, h1.2.2 k hk c (by simp)⟩
    · exact Or.inl hk
    · exact Or.inr ⟨Or.inr (Or.inr hk), fun e => h1.2.1.1 (e ▸ hk)⟩
  · rintro (hk | ⟨hk | hk | hk, hne⟩)
    · exact Or.inr (Or.inl hk)
    · exact Or.inl hk
    · exact absurd hk hne
    · exact Or.inr (Or.inr hk)
theorem use_n (h : NewOk us r v ca cb c n) : useN (us ++ r) (n : Int) = 0 := by
  rcases Nat.eq_zero_or_pos (useN (us ++ r) (n : Int)) with h0 | h0
  · exact h0
  · obtain ⟨u, hu, hk⟩ := useN_pos.1 h0
    have := h.bd u (by simp at hu ⊢; rcases hu with hu | hu; exact Or.inl hu; exact Or.inr (Or.inr hu)) n hk
    omega
theorem use_new (h : NewOk us r v ca cb c n) {k : Nat} (hk : k < n + 1) : useN (us ++ nv v ca cb n :: r) (k : Int) = 1 := by
  have hc := h.use_c
  rw [useN_mid]
  have hm := h.nv_mem (k : Int)
  by_cases e : k = n
  · subst e
    rw [if_pos (hm.2 (Or.inl rfl)), h.use_n]
  · by_cases e2 : (k : Int) = c
    · rw [if_neg (fun x => by rcases hm.1 x with q | q; omega; exact q.2 e2)]
      have := hc.1
      rw [useN_mid, if_pos h.mem_v] at this
      rw [e2]; omega
    · have h1 := h.use_k (by omega : k < n) e2
      rw [useN_mid] at h1
      by_cases q : (k : Int) ∈ v.2
      · rw [if_pos q] at h1
        rw [if_pos (hm.2 (Or.inr ⟨q, e2⟩))]; exact h1
      · rw [if_neg q] at h1
        rw [if_neg (fun x => by rcases hm.1 x with z | z; omega; exact q z.1)]; exact h1
theorem ncr_new (h : NewOk us r v ca cb c n) : ncr (us ++ nv v ca cb n :: r) = ((n + 1 : Nat) : Int) := by
  apply Int.le_antisymm
  · unfold ncr
    rcases ncGo_is 0 (us ++ nv v ca cb n :: r) with e | ⟨u, hu, x, hx, e⟩
    · rw [e]; omega
    · rw [e]
      have : x < (n : Int) + 1 := by
        rcases List.mem_append.1 hu with hu | hu
        · have := h.bd u (by simp [hu]) x hx; omega
        · rcases List.mem_cons.1 hu with rfl | hu
          · have := h.nv_ok.2.2 x hx; omega
          · have := h.bd u (by simp [hu]) x hx; omega
      omega
  · have := (ncGo_le 0 (us ++ nv v ca cb n :: r)).2 (nv v ca cb n) (by simp) n (by unfold nv; simp)
    unfold ncr
    omega
theorem pat_new (h : NewOk us r v ca cb c n) : patB (us ++ nv v ca cb n :: r) = true := by
  obtain ⟨h1, h2, hall, _, _, _⟩ := patB_parts h.hp
  rw [List.all_append, List.all_cons, Bool.and_eq_true, Bool.and_eq_true] at hall
  unfold patB
  rw [h.ncr_new, Int.toNat_natCast, usesOk_iff.2 fun k hk => by have := h.use_new hk; omega, List.all_append, List.all_cons, hall.1, hall.2.2, h.nv_vtx]
  rw [List.length_append, List.length_cons] at h1 h2
  rw [List.length_append, List.length_cons, decide_eq_true h1, decide_eq_true h2]; rfl
theorem rest_bd (h : NewOk us r v ca cb c n) : ∀ k, inA (us ++ r) k → k < n := by
  rintro k ⟨u, hu, d, hd, rfl⟩
  have := h.bd u (by simp at hu ⊢; rcases hu with hu | hu; exact Or.inl hu; exact Or.inr (Or.inr hu)) d hd
  omega
/-- twice as many folds -/
theorem pm_new (h : NewOk us r v ca cb c n) : pmI (us ++ nv v ca cb n :: r) = 2 * pmI (us ++ v :: r) := by
  have hc := h.use_c
  rw [pm_cnt h.pat_new h.ncr_new, pm_cnt h.hp h.hn]
  have hb := h.bd
  have hv2 : VOk2 n v := ⟨h.nod.1, h.nod.2, hb v h.in_v⟩
  have h1 := vA_cnt hv2
  have h2 := vA_cnt h.nv_ok
  have e : vmN (nv v ca cb n) = vmN v := by
    have : (nv v ca cb n).2.length = v.2.length := by rw [h.hv]; unfold nv; simp
    unfold vmN
    rw [this]; rfl
  have hl : (nv v ca cb n).2.length = v.2.length := by rw [h.hv]; unfold nv; simp
  rw [e, hl, Nat.pow_succ] at h2
  have h3 : cntF (n + 1) (vA (nv v ca cb n)) = 2 * cntF n (vA v) := by
    apply Nat.eq_of_mul_eq_mul_right (Nat.two_pow_pos v.2.length)
    rw [h2, Nat.mul_assoc 2, h1, Nat.mul_comm (2 ^ n) 2, Nat.mul_assoc]
  have hR := aA_dep (us ++ r)
  have h4 : cntF (n + 1) (aA (us ++ r)) = 2 * cntF n (aA (us ++ r)) := cntF_free hR fun hk => by have := h.rest_bd n hk; omega
  have h5 := cntF_one (n := n) (c := c.toNat) (by omega) (vA_dep v) hR (by rintro k ⟨d, hd, rfl⟩; have := hb v h.in_v d hd; omega) h.rest_bd (by
    rintro k ⟨d, hd, rfl⟩ ⟨u, hu, d2, hd2, e2⟩
    have b1 := hb v h.in_v d hd
    have b2 := hb u (by simp at hu ⊢; rcases hu with hu | hu; exact Or.inl hu; exact Or.inr (Or.inr hu)) d2 hd2
    obtain rfl : d2 = d := by omega
    by_cases q : d2 = c
    · rw [q]
    · exfalso
      have hu1 := h.use_k (k := d2.toNat) (by omega) (by omega)
      have hz : ((d2.toNat : Nat) : Int) = d2 := by omega
      rw [hz, useN_mid, if_pos hd] at hu1
      have := useN_pos.2 ⟨u, hu, hd2⟩
      omega) (vA_swap v) (aA_swap (us ++ r))
  have h6 := cntF_indep (n := n + 1) (vA_dep (nv v ca cb n)) hR (by
    rintro k ⟨d, hd, rfl⟩ ⟨u, hu, d2, hd2, e2⟩
    have b1 := h.nv_ok.2.2 d hd
    have b2 := hb u (by simp at hu ⊢; rcases hu with hu | hu; exact Or.inl hu; exact Or.inr (Or.inr hu)) d2 hd2
    obtain rfl : d2 = d := by omega
    have hu1 := h.use_new (k := d2.toNat) (by omega)
    have hz : ((d2.toNat : Nat) : Int) = d2 := by omega
    rw [hz, useN_mid, if_pos hd] at hu1
    have := useN_pos.2 ⟨u, hu, hd2⟩
    omega)
  rw [h3, h4, Nat.pow_succ] at h6
  have e1 : cntF n (aA (us ++ v :: r)) = cntF n (fun s => vA v s && aA (us ++ r) s) := cntF_congr fun s => aA_mid us r v s
  have e3 : cntF (n + 1) (aA (us ++ nv v ca cb n :: r)) = cntF (n + 1) (fun s => vA (nv v ca cb n) s && aA (us ++ r) s) := cntF_congr fun s => aA_mid us r _ s
  rw [e1, e3]
  have h7 : 2 ^ n * (2 * cntF (n + 1) (fun s => vA (nv v ca cb n) s && aA (us ++ r) s)) = 2 ^ n * (4 * cntF n (fun s => vA v s && aA (us ++ r) s)) := by
    calc _ = 2 ^ n * 2 * cntF (n + 1) (fun s => vA (nv v ca cb n) s && aA (us ++ r) s) := by rw [Nat.mul_assoc]
      _ = 2 * cntF n (vA v) * (2 * cntF n (aA (us ++ r))) := h6
      _ = 4 * (cntF n (vA v) * cntF n (aA (us ++ r))) := by rw [Nat.mul_assoc 2, Nat.mul_left_comm (cntF n (vA v)), ← Nat.mul_assoc 2 2]
      _ = 4 * (2 ^ n * cntF n (fun s => vA v s && aA (us ++ r) s)) := by rw [h5]
      _ = _ := by rw [Nat.mul_left_comm]
  have h8 := Nat.eq_of_mul_eq_mul_left (Nat.two_pow_pos n) h7
  omega
end NewOk
theorem set_mid {α : Type} {l : List α} {i : Nat} (h : i < l.length) (x : α) : l.set i x = l.take i ++ x :: l.drop (i + 1) := by
  rw [List.set_eq_take_append_cons_drop, if_pos h]
theorem cut_mid {α : Type} {l : List α} {i : Nat} (h : i < l.length) : l = l.take i ++ l[i] :: l.drop (i + 1) := by
  rw [← List.drop_eq_getElem_cons h, List.take_append_drop]
/-- the inner crease's place at a vertex gets a new crease -/
theorem pm_set {vs : List Vx} {n i k : Nat} {c : Int} (hp : patB vs = true) (hn : ncr vs = (n : Int)) (hi : innerL vs = [c]) (h9 : n < 10) (hl : i < vs.length) (hk : k < vs[i].2.length) (hc : vs[i].2[k] = c) :
    pmI (vs.set i (vs[i].1, vs[i].2.set k (n : Int))) = 2 * pmI vs ∧ patB (vs.set i (vs[i].1, vs[i].2.set k (n : Int))) = true := by
  have hm := cut_mid hl
  have H : NewOk (vs.take i) (vs.drop (i + 1)) vs[i] (vs[i].2.take k) (vs[i].2.drop (k + 1)) c n := ⟨hm ▸ hp, by rw [← hm]; exact hn, by rw [← hm]; exact hi, by rw [← hc]; exact cut_mid hk, h9⟩
  have h1 := H.pm_new
  have h2 := H.pat_new
  rw [set_mid hl, set_mid hk]
  rw [← hm] at h1
  exact ⟨h1, h2⟩
theorem pm_set2 {vs : List Vx} {n i k : Nat} {c : Int} {cs : List Int} (hp : patB vs = true) (hn : ncr vs = (n : Int)) (hi : innerL vs = [c]) (h9 : n < 10) (hl : i < vs.length) (hcs : cs = vs[i].2) (hk : k < cs.length) (hc : cs[k] = c) :
    pmI (vs.set i (vs[i].1, cs.set k (n : Int))) = 2 * pmI vs := by
  subst hcs
  exact (pm_set hp hn hi h9 hl hk hc).1
theorem inner_some {vs : List Vx} {c : Int} (hp : patB vs = true) (hi : innerL vs = [c]) : ∃ v ∈ vs, c ∈ v.2 := by
  have hm : c ∈ innerL vs := by rw [hi]; simp
  unfold innerL at hm
  rw [hp, if_pos rfl] at hm
  obtain ⟨k, _, rfl, h2⟩ := innerTo_mem.1 hm
  exact useN_pos.1 (by omega)
theorem inner_pat {vs : List Vx} (h : innerL vs ≠ []) : patB vs = true := by
  cases hp : patB vs with
  | true => rfl
  | false => exact absurd (by unfold innerL; rw [hp]; rfl) h
end Go.Proofs.Ytnccpifdajcejaa
