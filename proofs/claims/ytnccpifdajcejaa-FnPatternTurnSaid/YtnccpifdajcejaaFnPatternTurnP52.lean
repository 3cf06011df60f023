/- A pattern's folds counted by its vertices. No program, no condition. A pattern with a vertex turned by one, and with its vertices turned by one: as many folds. No program, no condition. A region that draws its order, by an invariant over what has come up. No program, no condition. Rows of the call's own through a region that draws its order: which are alive, no two in one block; append of integers told where the row lies. No condition but sizes. -/
import Derived.Test.YtnccpifdajcejaaFnPatternTurnP50
import Derived.Test.YtnccpifdajcejaaFnPatternTurnP51
import Derived.Deep.RegionHeld3
import Derived.Test.YtnccpifdajcejaaPushV
namespace Go.Proofs.Ytnccpifdajcejaa

def vA (v : Vx) (s : Nat → UInt8) : Bool := vfB v.1 (bts (v.2.map fun c => s c.toNat))
def aA (vs : List Vx) (s : Nat → UInt8) : Bool := vs.all fun v => vA v s
def inV (v : Vx) (k : Nat) : Prop := ∃ c ∈ v.2, c.toNat = k
def inA (vs : List Vx) (k : Nat) : Prop := ∃ v ∈ vs, inV v k
theorem all_congr {α : Type} {vs : List α} {f g : α → Bool} (h : ∀ v ∈ vs, f v = g v) : vs.all f = vs.all g := by
  induction vs with
  | nil => rfl
  | cons v r ih => rw [List.all_cons, List.all_cons, h v (by simp), ih fun u hu => h u (by simp [hu])]
theorem vA_dep (v : Vx) : Dep (inV v) (vA v) := by
  intro s t h
  have e : (v.2.map fun c => s c.toNat) = v.2.map fun c => t c.toNat := List.map_congr_left fun c hc => h c.toNat ⟨c, hc, rfl⟩
  unfold vA
  rw [e]
theorem aA_dep (vs : List Vx) : Dep (inA vs) (aA vs) := by
  intro s t h
  exact all_congr fun v hv => vA_dep v s t fun k hk => h k ⟨v, hv, hk⟩
theorem vA_swap (v : Vx) (s : Nat → UInt8) : vA v (fun k => swB (s k)) = vA v s := by
  have e : (v.2.map fun c => swB (s c.toNat)) = (v.2.map fun c => s c.toNat).map swB := by rw [List.map_map]; rfl
  unfold vA
  rw [e, vf_swap]
theorem aA_swap (vs : List Vx) (s : Nat → UInt8) : aA vs (fun k => swB (s k)) = aA vs s := all_congr fun v _ => vA_swap v s
theorem pm_cnt {vs : List Vx} {n : Nat} (hp : patB vs = true) (hn : ncr vs = (n : Int)) : pmI vs = (cntF n (aA vs) : Int) := by
  obtain ⟨P, hP⟩ : ∃ P : List UInt8 → Bool, P = fun l => vs.all fun v => vfB v.1 (bts (v.2.map fun c => l.getD c.toNat 0)) := ⟨_, rfl⟩
  have e : ∀ m, cntP (rankB vs n) m = cntK n P m := by
    intro m
    induction m with
    | zero => rfl
    | succ m ih => rw [cntP, cntK, ih, hP]; rfl
  unfold pmI
  rw [hp, if_pos rfl, hn, Int.toNat_natCast, e, cntK_T, ← cntF_T]
  congr 1
  refine cntF_congr fun s => ?_
  rw [hP]
  refine all_congr fun v hv => ?_
  unfold vA
  congr 2
  refine List.map_congr_left fun c hc => ?_
  have := (pat_bd3 hp v hv).2.2 c hc
  have hc2 : c.toNat < n := by omega
  rw [List.getD_eq_getElem?_getD, List.getElem?_map, List.getElem?_range hc2]; rfl
/-- a vertex's folds -/
def vmN (v : Vx) : Nat := cntT v.2.length fun l => vfB v.1 (bts l)
theorem vmN_vm {v : Vx} (h : vtxB v = true) : vmI v.1 = (vmN v : Int) := by
  have hb := vtxB_bd h
  unfold vmI vmN
  rw [((acB_iff _).1 hb.1).1, if_pos rfl, cntV_T, hb.2.1]
/-- a vertex whose creases are different and below n -/
def VOk2 (n : Nat) (v : Vx) : Prop := v.2.length = v.1.length ∧ v.2.Nodup ∧ ∀ c ∈ v.2, 0 ≤ c ∧ c < (n : Int)
theorem toNat_nodup {cs : List Int} (hn : cs.Nodup) (h0 : ∀ c ∈ cs, 0 ≤ c) : (cs.map Int.toNat).Nodup := by
  rw [List.nodup_iff_pairwise_ne, List.pairwise_map]
  refine List.Pairwise.imp_of_mem (fun {a b} ha hb h => ?_) (List.nodup_iff_pairwise_ne.1 hn)
  have := h0 a ha
  have := h0 b hb
  omega
theorem vA_cnt {n : Nat} {v : Vx} (h : VOk2 n v) : cntF n (vA v) * 2 ^ v.2.length = 2 ^ n * vmN v := by
  have := cntF_pick (n := n) (toNat_nodup h.2.1 fun c hc => (h.2.2 c hc).1) (fun c hc => by obtain ⟨d, hd, rfl⟩ := List.mem_map.1 hc; have := h.2.2 d hd; omega) (fun l => vfB v.1 (bts l))
  rw [List.length_map] at this
  unfold vmN
  rw [← this]
  congr 1
  refine cntF_congr fun s => ?_
  unfold vA
  rw [List.map_map]; rfl
def prodN : List Vx → Nat
  | [] => 1
  | v :: r => vmN v * prodN r
theorem cnt_prod {n : Nat} {vs : List Vx} (hv : ∀ v ∈ vs, VOk2 n v) (hu : ∀ k : Int, useN vs k ≤ 1) : cntF n (aA vs) * 2 ^ sumA vs = 2 ^ n * prodN vs := by
  induction vs with
  | nil =>
    have := cntF_pick (n := n) (cs := []) List.nodup_nil (fun c hc => by cases hc) (fun _ => true)
    have e : cntT 0 (fun _ => true) = 1 := rfl
    rw [List.length_nil, e] at this
    exact this
  | cons v r ih =>
    have hI := cntF_indep (n := n) (vA_dep v) (aA_dep r) (by
      rintro k ⟨c, hc, rfl⟩ ⟨u, hu1, d, hd, e⟩
      have h1 := (hv v (by simp)).2.2 c hc
      have h2 := (hv u (by simp [hu1])).2.2 d hd
      have hcd : d = c := by omega
      subst hcd
      have h3 := hu d
      rw [useN, if_pos hc] at h3
      have h4 := useN_pos.2 ⟨u, hu1, hd⟩
      omega)
    have hV := vA_cnt (hv v (by simp))
    have hR := ih (fun u hu' => hv u (by simp [hu'])) (fun k => by have := hu k; rw [useN] at this; omega)
    rw [(hv v (by simp)).1] at hV
    have e : aA (v :: r) = fun s => vA v s && aA r s := rfl
    rw [e, sumA, prodN, Nat.pow_add]
    apply Nat.eq_of_mul_eq_mul_left (Nat.two_pow_pos n)
    rw [← Nat.mul_assoc, hI]
    calc cntF n (vA v) * cntF n (aA r) * (2 ^ v.1.length * 2 ^ sumA r) = (cntF n (vA v) * 2 ^ v.1.length) * (cntF n (aA r) * 2 ^ sumA r) := by simp only [Nat.mul_assoc, Nat.mul_comm, Nat.mul_left_comm]
      _ = _ := by rw [hV, hR]; simp only [Nat.mul_assoc, Nat.mul_comm, Nat.mul_left_comm]
def prodZ : List Vx → Int
  | [] => 1
  | v :: r => vmI v.1 * prodZ r
theorem prodZ_snoc (vs : List Vx) (v : Vx) : prodZ (vs ++ [v]) = prodZ vs * vmI v.1 := by
  induction vs with
  | nil => rw [List.nil_append, prodZ, prodZ, prodZ, Int.mul_one, Int.one_mul]
  | cons u r ih => rw [List.cons_append, prodZ, prodZ, ih, Int.mul_assoc]
theorem prodZ_N {vs : List Vx} (h : vs.all vtxB = true) : prodZ vs = (prodN vs : Int) := by
  induction vs with
  | nil => rfl
  | cons v r ih =>
    rw [List.all_cons, Bool.and_eq_true] at h
    rw [prodZ, prodN, ih h.2, vmN_vm h.1]; omega
theorem cntT_le (n : Nat) (P : List UInt8 → Bool) : cntT n P ≤ 2 ^ n := by
  induction n generalizing P with
  | zero => rw [cntT]; split <;> omega
  | succ n ih =>
    rw [cntT, Nat.pow_succ]
    have := ih (fun l => P (77 :: l))
    have := ih (fun l => P (86 :: l))
    omega
theorem vm_bd {v : Vx} (h : vtxB v = true) : 0 ≤ vmI v.1 ∧ vmI v.1 ≤ 1024 := by
  rw [vmN_vm h]
  have h1 := cntT_le v.2.length fun l => vfB v.1 (bts l)
  have h2 : 2 ^ v.2.length ≤ 1024 := pow_le_1024 (vtxB_bd h).2.2.1
  unfold vmN
  omega
theorem useN_le_in {vs : List Vx} {n : Nat} (hb : ∀ v ∈ vs, ∀ c ∈ v.2, 0 ≤ c ∧ c < (n : Int)) (h : ∀ k, k < n → useN vs (k : Int) ≤ 1) (k : Int) : useN vs k ≤ 1 := by
  rcases Nat.eq_zero_or_pos (useN vs k) with h0 | h0
  · omega
  · obtain ⟨v, hv, hk⟩ := useN_pos.1 h0
    have := hb v hv k hk
    obtain ⟨m, rfl⟩ : ∃ m : Nat, k = (m : Int) := ⟨k.toNat, by omega⟩
    exact h m (by omega)
theorem innerTo_nil {vs : List Vx} {n : Nat} (h : innerTo vs n = []) : ∀ k, k < n → useN vs (k : Int) ≠ 2 := by
  intro k hk h2
  have := innerTo_get hk h2
  rw [h] at this
  simp at this
/-- no inner crease: a pattern's folds are its vertices' folds together -/
theorem pm_prod {vs : List Vx} (hp : patB vs = true) (hi : innerL vs = []) : pmI vs = prodZ vs := by
  obtain ⟨n, hn, hn10, _⟩ := pat_num hp
  obtain ⟨_, _, hall, huse, _, _⟩ := patB_parts hp
  have hi2 : innerTo vs n = [] := by unfold innerL at hi; rw [hp, if_pos rfl, hn] at hi; exact hi
  have hs := pat_sum hp hn
  rw [hi2, List.length_nil, Nat.add_zero] at hs
  rw [hn, Int.toNat_natCast] at huse
  have hu := usesOk_iff.1 huse
  have hb := pat_bd3 hp
  rw [hn] at hb
  have h := cnt_prod (n := n) (vs := vs) hb (useN_le_in (fun v hv => (hb v hv).2.2) fun k hk => by have := hu k hk; have := innerTo_nil hi2 k hk; omega)
  rw [hs, Nat.mul_comm] at h
  rw [pm_cnt hp hn, prodZ_N hall, Nat.eq_of_mul_eq_mul_left (Nat.two_pow_pos n) h]
theorem cntF_even {m : Nat} {f : (Nat → UInt8) → Bool} (h : Dep (fun k => k < m + 1) f) (hs : ∀ s, f (fun k => swB (s k)) = f s) : cntF (m + 1) f % 2 = 0 := by
  have h2 : cntF m (fun s => f (upd s m 86)) = cntF m (fun s => f (upd s m 77)) := by
    rw [← cntF_swap (f := fun s => f (upd s m 77)) ((h.upd m 77).mono fun k hk => by have := hk.1; have := hk.2; omega)]
    refine cntF_congr fun s => ?_
    rw [← hs]
    congr 1
    rw [upd_swap]; rfl
  rw [cntF, h2]; omega
theorem pat_two {vs : List Vx} {n : Nat} (hp : patB vs = true) (hn : ncr vs = (n : Int)) : 2 ≤ n := by
  obtain ⟨p1, _, hall, _, _, _⟩ := patB_parts hp
  have hm := List.getElem_mem (l := vs) (n := 0) (by omega)
  have hb := vtxB_bd (List.all_eq_true.1 hall _ hm)
  have hd := pat_bd3 hp _ hm
  have ha := hd.2.2 _ (List.getElem_mem (n := 0) (by omega : 0 < vs[0].2.length))
  have hc := hd.2.2 _ (List.getElem_mem (n := 1) (by omega : 1 < vs[0].2.length))
  have hne := List.pairwise_iff_getElem.1 (List.nodup_iff_pairwise_ne.1 hd.2.1) 0 1 (by omega) (by omega) (by omega)
  omega
theorem aA_dep_n {vs : List Vx} {n : Nat} (hb : ∀ v ∈ vs, ∀ c ∈ v.2, 0 ≤ c ∧ c < (n : Int)) : ∀ k, inA vs k → k < n := by
  rintro k ⟨v, hv, c, hc, rfl⟩
  have := hb v hv c hc
  omega
theorem pm_even {vs : List Vx} (hp : patB vs = true) : pmI vs % 2 = 0 := by
  obtain ⟨n, hn, _, _⟩ := pat_num hp
  have h2 := pat_two hp hn
  obtain ⟨m, rfl⟩ : ∃ m, n = m + 1 := ⟨n - 1, by omega⟩
  have hb := pat_bd3 hp
  rw [hn] at hb
  have := cntF_even ((aA_dep vs).mono (aA_dep_n fun v hv => (hb v hv).2.2)) (aA_swap vs)
  rw [pm_cnt hp hn]; omega
theorem fstP_isSome (p : Nat → Bool) (k g : Nat) : (fstP p k g).isSome = true ↔ ∃ j, k ≤ j ∧ j < k + g ∧ p j = true := by
  induction g generalizing k with
  | zero =>
    rw [fstP]
    constructor
    · intro h; cases h
    · rintro ⟨j, h1, h2, _⟩; omega
  | succ g ih =>
    rw [fstP]
    by_cases hp : p k = true
    · rw [if_pos hp]
      exact ⟨fun _ => ⟨k, Nat.le_refl _, by omega, hp⟩, fun _ => rfl⟩
    · rw [if_neg hp, ih]
      constructor
      · rintro ⟨j, h1, h2, h3⟩; exact ⟨j, by omega, by omega, h3⟩
      · rintro ⟨j, h1, h2, h3⟩
        refine ⟨j, ?_, by omega, h3⟩
        rcases Nat.lt_or_ge k j with h | h
        · omega
        · exact absurd ((by omega : j = k) ▸ h3) hp
theorem cntP_pos (p : Nat → Bool) (m : Nat) : 0 < cntP p m ↔ ∃ j, j < m ∧ p j = true := by
  induction m with
  | zero => simp [cntP]
  | succ m ih =>
    rw [cntP]
    by_cases hp : p m = true
    · rw [if_pos hp]
      exact ⟨fun _ => ⟨m, by omega, hp⟩, fun _ => by omega⟩
    · rw [if_neg hp, Nat.add_zero, ih]
      constructor
      · rintro ⟨j, h1, h3⟩; exact ⟨j, by omega, h3⟩
      · rintro ⟨j, h1, h3⟩
        refine ⟨j, ?_, h3⟩
        rcases Nat.lt_or_ge j m with h | h
        · exact h
        · exact absurd ((by omega : j = m) ▸ h3) hp
theorem pfo_pos {vs : List Vx} (hp : patB vs = true) : (pfo vs).isSome = decide (0 < pmI vs) := by
  have : (pfo vs).isSome = true ↔ 0 < pmI vs := by
    unfold pfo pmI
    rw [hp, if_pos rfl, if_pos rfl, fstP_isSome]
    have := cntP_pos (rankB vs (ncr vs).toNat) (2 ^ (ncr vs).toNat)
    constructor
    · rintro ⟨j, _, h2, h3⟩
      have := this.2 ⟨j, by omega, h3⟩
      omega
    · intro h
      obtain ⟨j, h1, h2⟩ := this.1 (by omega)
      exact ⟨j, by omega, by omega, h2⟩
  rw [Bool.eq_iff_iff, this, decide_eq_true_iff]
end Go.Proofs.Ytnccpifdajcejaa
namespace Go.Proofs.Ytnccpifdajcejaa

/-- a vertex turned by one -/
def turnX (v : Vx) : Vx := (v.1.drop 1 ++ v.1.take 1, v.2.drop 1 ++ v.2.take 1)
theorem useN_mem {vs us : List Vx} (hm : ∀ k, useN us k = useN vs k) (x : Int) : (∃ v ∈ us, x ∈ v.2) ↔ ∃ v ∈ vs, x ∈ v.2 := by
  rw [← useN_pos, ← useN_pos, hm]
theorem ncr_le {vs us : List Vx} (h : ∀ x, (∃ v ∈ us, x ∈ v.2) → ∃ v ∈ vs, x ∈ v.2) : ncr us ≤ ncr vs := by
  unfold ncr
  rcases ncGo_is 0 us with e | ⟨v, hv, x, hx, e⟩
  · rw [e]; exact (ncGo_le 0 vs).1
  · rw [e]
    obtain ⟨u, hu, hxu⟩ := h x ⟨v, hv, hx⟩
    exact (ncGo_le 0 vs).2 u hu x hxu
theorem ncr_same {vs us : List Vx} (hm : ∀ k, useN us k = useN vs k) : ncr us = ncr vs :=
  Int.le_antisymm (ncr_le fun x => (useN_mem hm x).1) (ncr_le fun x => (useN_mem hm x).2)
theorem usesOk_same {vs us : List Vx} (hm : ∀ k, useN us k = useN vs k) (n : Nat) : usesOk us n = usesOk vs n := by
  induction n with
  | zero => rfl
  | succ n ih => rw [usesOk, usesOk, ih, hm]
theorem pm_like {vs us : List Vx} (hp : patB vs = true) (hl : us.length = vs.length) (hv : us.all vtxB = true) (hm : ∀ k, useN us k = useN vs k) (ha : ∀ s, aA us s = aA vs s) : pmI us = pmI vs := by
  obtain ⟨n, hn, _, _⟩ := pat_num hp
  have hp2 : patB us = true := by
    obtain ⟨h1, h2, h3, h4, _, _⟩ := patB_parts hp
    unfold patB
    rw [hl, hv, ncr_same hm, usesOk_same hm, h4, decide_eq_true h1, decide_eq_true h2]; rfl
  rw [pm_cnt hp hn, pm_cnt hp2 ((ncr_same hm).trans hn), cntF_congr ha]
theorem turn_mem {α : Type} (l : List α) (x : α) : x ∈ l.drop 1 ++ l.take 1 ↔ x ∈ l := by
  cases l with
  | nil => simp
  | cons y r => simp [or_comm]
theorem turn_nodup {l : List Int} (h : l.Nodup) : (l.drop 1 ++ l.take 1).Nodup := by
  cases l with
  | nil => exact h
  | cons y r =>
    rw [List.nodup_cons] at h
    show (r ++ [y]).Nodup
    rw [List.nodup_append]
    refine ⟨h.2, by simp, fun a ha b hb => ?_⟩
    simp at hb
    subst hb
    intro e
    exact h.1 (e ▸ ha)
theorem vtx_turn {v : Vx} (h : vtxB v = true) : vtxB (turnX v) = true := by
  unfold vtxB at h ⊢
  simp only [Bool.and_eq_true, decide_eq_true_eq] at h ⊢
  obtain ⟨⟨h1, h2⟩, h3⟩ := h
  refine ⟨⟨?_, ?_⟩, ?_⟩
  · have : acB (v.1.take 1 ++ v.1.drop 1) = true := by rw [List.take_append_drop]; exact h1
    exact acB_turn this
  · unfold turnX; simp; omega
  · rw [crB_iff] at h3 ⊢
    exact ⟨fun x hx => h3.1 x ((turn_mem v.2 x).1 hx), turn_nodup h3.2⟩
theorem vA_turn {v : Vx} (hl : v.2.length = v.1.length) (s : Nat → UInt8) : vA (turnX v) s = vA v s := by
  have h := vf_turn (u := v.1.take 1) (v := v.1.drop 1) (u' := (v.2.take 1).map fun c => s c.toNat) (v' := (v.2.drop 1).map fun c => s c.toNat) (by simp; omega) (by simp; omega)
  rw [← List.map_append, ← List.map_append, List.take_append_drop, List.take_append_drop] at h
  exact h
theorem use_turn (v : Vx) (r : List Vx) (k : Int) : useN (turnX v :: r) k = useN (v :: r) k := by
  rw [useN, useN]
  congr 1
  have h := turn_mem v.2 k
  show (if k ∈ v.2.drop 1 ++ v.2.take 1 then 1 else 0) = _
  simp only [h]
/-- a vertex of a pattern turned -/
theorem pm_turnV {us r : List Vx} {v : Vx} (hp : patB (us ++ v :: r) = true) : pmI (us ++ turnX v :: r) = pmI (us ++ v :: r) := by
  obtain ⟨_, _, hall, _, _, _⟩ := patB_parts hp
  rw [List.all_append, List.all_cons, Bool.and_eq_true, Bool.and_eq_true] at hall
  refine pm_like hp (by simp) ?_ (fun k => by rw [useN_app, useN_app, use_turn]) (fun s => ?_)
  · rw [List.all_append, List.all_cons, hall.1, vtx_turn hall.2.1, hall.2.2]; rfl
  · unfold aA
    rw [List.all_append, List.all_append, List.all_cons, List.all_cons, vA_turn (vtxB_bd hall.2.1).2.1]
/-- a pattern's vertices turned -/
theorem pm_turnL {us vs : List Vx} (hp : patB (us ++ vs) = true) : pmI (vs ++ us) = pmI (us ++ vs) := by
  obtain ⟨_, _, hall, _, _, _⟩ := patB_parts hp
  rw [List.all_append, Bool.and_eq_true] at hall
  refine pm_like hp (by simp; omega) ?_ (fun k => by rw [useN_app, useN_app, Nat.add_comm]) (fun s => ?_)
  · rw [List.all_append, hall.1, hall.2]; rfl
  · unfold aA
    rw [List.all_append, List.all_append, Bool.and_comm]
end Go.Proofs.Ytnccpifdajcejaa
namespace Go.Proofs.Ytnccpifdajcejaa

theorem ready_set_lt {ops : Array Oper} {l : Array Bool} {i : Nat} (hi : i < ops.size) (h0 : l.getD i true = false) :
    (List.range ops.size).countP (fun k => !(l.setIfInBounds i true).getD k true) < (List.range ops.size).countP (fun k => !l.getD k true) := by
  have key : ∀ L : List Nat, (L.countP (fun k => !(l.setIfInBounds i true).getD k true) ≤ L.countP (fun k => !l.getD k true)) ∧ (i ∈ L → L.countP (fun k => !(l.setIfInBounds i true).getD k true) < L.countP (fun k => !l.getD k true)) := by
    intro L
    induction L with
    | nil => exact ⟨Nat.le_refl _, fun h => by cases h⟩
    | cons k r ih =>
      have hk : (!(l.setIfInBounds i true).getD k true) = true → (!l.getD k true) = true ∧ k ≠ i := by
        intro h
        by_cases e : i = k
        · subst e
          exfalso
          rcases Nat.lt_or_ge i l.size with hl | hl
          · simp [hl] at h
          · simp [hl] at h
        · rw [getD_set_ne true e] at h
          exact ⟨h, fun q => e q.symm⟩
      rw [List.countP_cons, List.countP_cons]
      constructor
      · have := ih.1
        by_cases h : (!(l.setIfInBounds i true).getD k true) = true
        · rw [if_pos h, if_pos (hk h).1]; omega
        · rw [if_neg h]; omega
      · intro hm
        rcases List.mem_cons.1 hm with e | hm
        · have h1 : ¬ (!(l.setIfInBounds i true).getD k true) = true := fun h => (hk h).2 e.symm
          have h2 : (!l.getD k true) = true := by rw [← e, h0]; rfl
          rw [if_neg h1, if_pos h2]
          have := ih.1
          omega
        · have := ih.2 hm
          by_cases h : (!(l.setIfInBounds i true).getD k true) = true
          · rw [if_pos h, if_pos (hk h).1]; omega
          · rw [if_neg h]; omega
  exact (key _).2 (List.mem_range.2 hi)
/-- a fact of each operation -/
def AllOps (F : Nat → Oper → Prop) : Nat → List Oper → Prop
  | _, [] => True
  | n, o :: r => F n o ∧ AllOps F (n + 1) r
theorem AllOps.cons {F : Nat → Oper → Prop} {n : Nat} {o : Oper} {r : List Oper} (h : F n o) (hr : AllOps F (n + 1) r) : AllOps F n (o :: r) := ⟨h, hr⟩
theorem AllOps.nil {F : Nat → Oper → Prop} {n : Nat} : AllOps F n [] := trivial
theorem AllOps.at_ {F : Nat → Oper → Prop} {l : List Oper} {n i : Nat} {o : Oper} (h : AllOps F n l) (ho : l[i]? = some o) : F (n + i) o := by
  induction l generalizing n i with
  | nil => simp at ho
  | cons x r ih =>
    cases i with
    | zero => simp at ho; subst ho; exact h.1
    | succ i =>
      have := ih h.2 (by simpa using ho)
      rw [show n + (i + 1) = n + 1 + i from by omega]; exact this
/-- what an operation needs of those ahead of it -/
def Deps (o : Oper) (L : Nat → Bool) : Prop := ∀ e ∈ o.after, Region.binds .any e = true → L e.on = true
theorem wp_region_inv {P : Program} {ops : Array Oper} {Q : Exit → Act → World → Prop} {id : Nat} {a : Act} {w : World} (hm : P.follows .mixedOrders = true)
    (hac : AllOps (fun i o => ∀ e ∈ o.after, Region.binds .any e = true → e.on < i) 0 ops.toList) (J : (Nat → Bool) → Act → World → Prop) (h0 : J (fun k => decide (ops.size ≤ k)) a w.drew)
    (hs : AllOps (fun i o => ∀ L b v, J L b v → L i = false → Deps o L → ∀ K : Act → World → Prop, Shut (∀ b' v', J (fun k => k == i || L k) b' v' → K b' v') →
      if Region.wanted o (yielded ops b.tmps) = true then Oper.wp P o b v K Q else K (b.put o.dst undef) v) 0 ops.toList)
    (he : ∀ L b v, J L b v → (∀ i, i < ops.size → L i = true) → Q .normal b v) : (Code.region id ops true).wp P Q a w := by
  refine wp_region_held_drew (S := fun _ => True) hm trivial (fun _ => ?_)
  have nxt : ∀ (l : Array Bool) (i : Nat), l.size = ops.size → i < ops.size → (fun k => (l.setIfInBounds i true).getD k true) = (fun k => k == i || l.getD k true) := by
    intro l i hl hi
    funext k
    by_cases e : i = k
    · subst e
      simp [hl, hi]
    · rw [getD_set_ne true e]
      have : (k == i) = false := by rw [beq_eq_false_iff_ne]; exact fun q => e q.symm
      rw [this, Bool.false_or]
  have done : ∀ (l : Array Bool), Region.ready .any ops l = [] → ∀ i, i < ops.size → l.getD i true = true := by
    intro l hr i
    induction i using Nat.strongRecOn with
    | ind i ih =>
      intro hi
      cases h : l.getD i true with
      | true => rfl
      | false =>
        exfalso
        have ho : ops[i]? = some ops[i] := Array.getElem?_eq_getElem hi
        have hin : i ∈ Region.ready .any ops l := by
          refine mem_ready.2 ⟨h, _, ho, fun e he hb => ?_⟩
          have hlt := hac.at_ (n := 0) (i := i) (o := ops[i]) (by simp [hi]) e he hb
          have := ih e.on (by omega) (by omega)
          rcases Nat.lt_or_ge e.on l.size with hz | hz
          · simpa [hz] using this
          · exfalso
            have hiz : l.getD i true = true := by simp [Array.getElem?_eq_none (show l.size ≤ i by omega)]
            rw [hiz] at h; cases h
        rw [hr] at hin
        cases hin
  have key : ∀ (fuel : Nat) (l : Array Bool) (b : Act) (v : World), l.size = ops.size → (List.range ops.size).countP (fun k => !l.getD k true) ≤ fuel → J (fun k => l.getD k true) b v → wpAnyH P .any ops Q (fun _ => True) fuel l b v := by
    intro fuel
    induction fuel with
    | zero =>
      intro l b v hl hc hJ
      have hall : ∀ i, i < ops.size → l.getD i true = true := by
        intro i hi
        have h0 : (List.range ops.size).countP (fun k => !l.getD k true) = 0 := by omega
        rw [List.countP_eq_zero] at h0
        have := h0 i (List.mem_range.2 hi)
        simpa using this
      refine ⟨?_, he _ b v hJ hall⟩
      apply List.eq_nil_iff_forall_not_mem.2
      intro i hi
      obtain ⟨h1, o, ho, _⟩ := mem_ready.1 hi
      have hlt : i < ops.size := (Array.getElem?_eq_some_iff.1 ho).1
      rw [hall i hlt] at h1
      cases h1
    | succ fuel ih =>
      intro l b v hl hc hJ
      refine ⟨fun hr => he _ b v hJ (done l hr), fun i hi => ?_⟩
      obtain ⟨h1, o, ho, hd⟩ := mem_ready.1 hi
      have hlt : i < ops.size := (Array.getElem?_eq_some_iff.1 ho).1
      refine wpOp_step ho (fun K hK => ?_)
      have hs1 := hs.at_ (n := 0) (i := i) (o := o) (by simpa using ho)
      rw [Nat.zero_add] at hs1
      refine hs1 _ b v hJ h1 (fun e he hb => ?_) K (fun b' v' hJ' => hK b' v' ⟨trivial, ih _ b' v' (by simpa using hl) ?_ ?_⟩)
      · have := hd e he hb
        rcases Nat.lt_or_ge e.on l.size with hz | hz
        · simpa [hz] using this
        · simp [Array.getElem?_eq_none hz] at this
      · have := ready_set_lt (l := l) hlt h1
        omega
      · rw [nxt l i hl hlt]; exact hJ'
  refine key ops.size _ a w.drew (by simp) ?_ ?_
  · refine Nat.le_trans List.countP_le_length ?_
    rw [List.length_range]; exact Nat.le_refl _
  · have e : (fun k => (Array.replicate ops.size false).getD k true) = fun k => decide (ops.size ≤ k) := by
      funext k
      by_cases h : k < ops.size
      · have h2 : ¬ ops.size ≤ k := by omega
        simp [h, h2]
      · have h2 : ops.size ≤ k := by omega
        simp [h, h2]
    rw [e]; exact h0
end Go.Proofs.Ytnccpifdajcejaa
namespace Go.Proofs.Ytnccpifdajcejaa
open Go.RowKit

/-- one of a region's values put in -/
def updR (U : Nat → Value) (i : Nat) (v : Value) : Nat → Value := fun k => if k = i then v else U k
theorem updR_same (U : Nat → Value) (i : Nat) (v : Value) : updR U i v i = v := if_pos rfl
theorem updR_other (U : Nat → Value) {i k : Nat} (h : k ≠ i) (v : Value) : updR U i v k = U k := if_neg h
/-- the rows alive, each its own block -/
def RowsOk (B : Nat) (e : TypeId) (z : Nat) (nn : Nat → Nat) (xs : Nat → List Value) (live : Nat → Bool) (U : Nat → Value) (W : World) : Prop :=
  (∀ i, live i = true → W.ownsRow B e z (U i) (nn i) (xs i)) ∧ ∀ i j, live i = true → live j = true → i ≠ j → (U i).ownBlock = none ∨ (U i).ownBlock ≠ (U j).ownBlock
theorem RowsOk.pure {B : Nat} {e : TypeId} {z : Nat} {nn : Nat → Nat} {xs : Nat → List Value} {live live' : Nat → Bool} {U : Nat → Value} {W : World} (h : RowsOk B e z nn xs live U W) {i : Nat} {v : Value} (hl : ∀ j, live' j = true → live j = true ∧ j ≠ i) :
    RowsOk B e z nn xs live' (updR U i v) W := by
  refine ⟨fun j hj => ?_, fun j k hj hk hne => ?_⟩
  · rw [updR_other U (hl j hj).2]; exact h.1 j (hl j hj).1
  · rw [updR_other U (hl j hj).2, updR_other U (hl k hk).2]; exact h.2 j k (hl j hj).1 (hl k hk).1 hne
theorem RowsOk.row {B : Nat} {e : TypeId} {z : Nat} {nn : Nat → Nat} {xs : Nat → List Value} {live live' : Nat → Bool} {U : Nat → Value} {W W' : World} (h : RowsOk B e z nn xs live U W) {i : Nat} {v : Value} {p : Option Nat}
    (hg : W.grownBy W' p) (hv : W'.ownsRow B e z v (nn i) (xs i)) (hnew : v.ownBlock = p ∨ ∀ g, v.ownBlock = some g → W.heap.size ≤ g)
    (hl : ∀ j, live' j = true → j ≠ i → live j = true ∧ ((U j).ownBlock = none ∨ (U j).ownBlock ≠ p)) : RowsOk B e z nn xs live' (updR U i v) W' := by
  have far : ∀ j, live' j = true → j ≠ i → ((U j).ownBlock = none ∨ (U j).ownBlock ≠ v.ownBlock) := by
    intro j hj hne
    obtain ⟨h1, h2⟩ := hl j hj hne
    cases hq : (U j).ownBlock with
    | none => exact Or.inl rfl
    | some q =>
      right
      rw [hq] at h2
      rcases h2 with h2 | h2
      · cases h2
      · rcases hnew with h3 | h3
        · rw [h3]; exact h2
        · intro e1
          have := ((h.1 j h1).lt q hq).2
          have := h3 q e1.symm
          omega
  refine ⟨fun j hj => ?_, fun j k hj hk hne => ?_⟩
  · by_cases q : j = i
    · subst q; rw [updR_same]; exact hv
    · rw [updR_other U q]
      obtain ⟨h1, h2⟩ := hl j hj q
      exact (h.1 j h1).kept hg h2
  · by_cases q : j = i
    · subst q
      rw [updR_same, updR_other U (fun e1 => hne e1.symm)]
      rcases far k hk (fun e1 => hne e1.symm) with h4 | h4
      · cases hb : v.ownBlock with
        | none => exact Or.inl rfl
        | some g => right; rw [h4]; simp
      · exact Or.inr fun e1 => h4 e1.symm
    · by_cases q2 : k = i
      · subst q2
        rw [updR_same, updR_other U q]
        exact far j hj q
      · rw [updR_other U q, updR_other U q2]
        exact h.2 j k (hl j hj q).1 (hl k hk q2).1 hne
/-- integers as values in a row of the call's own -/
abbrev OwnI (w : World) (B : Nat) (v : Value) (n : Nat) (L : List Value) : Prop := w.ownsRow B 3 1 v n L
set_option maxRecDepth 100000 in
theorem run_appI (W : World) (B : Nat) (ty : TypeId) (v : Value) (n : Nat) (L : List Value) (A : Option Addr) (m c : Nat) (news : List Value) (hown : OwnI W B v n L) (hl : news.length = m * 1)
    (hA : A = none → m = 0) (hnews : ∀ a, A = some a → ∀ j u, news[j]? = some u → W.cell? (a.add j) = some u) (h1 : ∀ u ∈ news, u.oneCell' = true) (hB : B ≤ W.heap.size) (hn : n + m ≤ 1000000000000) :
    ∃ v' w', (Builtin.append_ #[27, 27] ty #[v, .slice A m c]).run Try.prog W = .ok v' w' ∧ OwnI w' B v' (n + m) (L ++ news) ∧ W.grownBy w' v.ownBlock ∧ Below B W w' ∧ Moved W v v' ∧
      (∀ g cap, v = .slice (some ⟨g, 0, none⟩) n cap → n + m ≤ cap → v' = .slice (some ⟨g, 0, none⟩) (n + m) cap) := by
  obtain ⟨i0, hi, hz0, hz1, hz2⟩ := info_parts Try.infoInt
  cases A with
  | none =>
    have hm := hA rfl
    subst hm
    have hnil : news = [] := List.eq_nil_of_length_eq_zero (by omega)
    subst hnil
    refine ⟨v, W, run_app_nil W B _ ty _ i0 1 Try.underlying27 hi v _ _ hown c, by simpa using hown, World.grownBy.refl W _, Below.refl _ _, Or.inl rfl, fun g cap e _ => by simpa using e⟩
  | some ad =>
    have hnews' := hnews ad rfl
    obtain ⟨v', w', hrun, h2, h3, _⟩ := run_append_own (P := Try.prog) W B 27 ty 3 i0 (.int .i64 0) 1 8 Try.underlying27 hi hz0 hz1 hz2 rfl (by decide) v _ _ hown ad m c news hl hnews' h1 (by unfold maxLen; omega) (by omega) hB
    have hroom : ∀ g cap, v = .slice (some ⟨g, 0, none⟩) n cap → n + m ≤ cap → v' = .slice (some ⟨g, 0, none⟩) (n + m) cap := by
      intro g cap hv hr
      rcases hown.2 with ⟨e, _⟩ | ⟨g', cap', cur, e, hb, hg, hnc, hcm, hcs, htake⟩
      · rw [hv] at e; cases e
      · rw [hv] at e
        injection e with e1 e2 e3
        injection e1 with e1
        injection e1 with e1
        subst e1 e3
        subst hv
        have hcl : ∀ j, j < news.length → n * 1 + j < cur.size := by intro j hj; omega
        have hrun2 := run_append_room_cells (P := Try.prog) W 27 ty 3 i0 Try.underlying27 hi g 0 n cap ad m c news (by rw [hz1]; exact hl) hnews' h1 hr
          (by intro j hj
              rw [hz1, cell_of_row W g _ cur 3 (0, 0) hg, Nat.zero_add, Array.getElem?_eq_getElem (hcl j hj)]; rfl) (by intro j _; simp [World.frozen?, hg])
        rw [hrun2] at hrun
        exact ((Result.ok.injEq _ _ _ _ ▸ hrun).1).symm
    refine ⟨v', w', hrun, h2, h3, (Below.refl _ _).grown h3 hB fun k hk => (hown.lt k hk).1, ?_, hroom⟩
    rcases hown.2 with ⟨e, h0⟩ | ⟨g, cap, cur, e, hb, hg, hnc, hcm, hcs, htake⟩
    · right
      have hx0 : L = [] := List.eq_nil_of_length_eq_zero (by rw [hown.1, h0])
      subst e h0 hx0
      obtain ⟨v2, w2, hrun2, h22, _, _⟩ := run_append_own (P := Try.prog) W W.heap.size 27 ty 3 i0 (.int .i64 0) 1 8 Try.underlying27 hi hz0 hz1 hz2 rfl (by decide) (.slice none 0 0) 0 [] ⟨rfl, Or.inl ⟨rfl, rfl⟩⟩ ad m c news hl hnews' h1 (by unfold maxLen; omega) (by omega) (Nat.le_refl _)
      rw [hrun2] at hrun
      injection hrun with e1 e2
      subst e1 e2
      exact fun g hg => (h22.lt g hg).1
    · by_cases hr : n + m ≤ cap
      · left
        rw [hroom g cap e hr, e]; rfl
      · right
        subst e
        obtain ⟨v2, w2, hrun2, hown2, _⟩ := run_append_arg_grows (P := Try.prog) W 27 ty 3 i0 (.int .i64 0) 1 8 Try.underlying27 hi hz0 hz1 hz2 rfl (by decide) ⟨g, 0, none⟩ n cap L hown.1
          (fun j u hj => hown.cells (g := g) rfl j u hj) ad m c news hl hnews' (by omega) (by unfold maxLen; omega) (by omega)
        rw [hrun2] at hrun
        injection hrun with e1 e2
        subst e1 e2
        exact fun q hq => (hown2.lt q hq).1

theorem wp_appI {o : Oper} {a : Act} {W : World} {K : Act → World → Prop} {Q : Exit → Act → World → Prop} (s x : Operand)
    (ho : o.op = .call { callee := .builtin .append, args := #[s, x], argTypes := #[27, 27] })
    (B : Nat) (v : Value) (n : Nat) (L : List Value) (A : Option Addr) (m c : Nat) (news : List Value) (hs : a.eval s = v) (hx : a.eval x = .slice A m c) (hown : OwnI W B v n L) (hl : news.length = m * 1)
    (hA : A = none → m = 0) (hnews : ∀ a, A = some a → ∀ j u, news[j]? = some u → W.cell? (a.add j) = some u) (h1 : ∀ u ∈ news, u.oneCell' = true) (hB : B ≤ W.heap.size) (hn : n + m ≤ 1000000000000)
    (h : ∀ v' w', OwnI w' B v' (n + m) (L ++ news) → W.grownBy w' v.ownBlock → Below B W w' → Moved W v v' → (∀ g cap, v = .slice (some ⟨g, 0, none⟩) n cap → n + m ≤ cap → v' = .slice (some ⟨g, 0, none⟩) (n + m) cap) → K (a.put o.dst v') w') : o.wp Try.prog a W K Q := by
  obtain ⟨v', w', hrun, h2, h3, h4, h5, h6⟩ := run_appI W B o.type v n L A m c news hown hl hA hnews h1 hB hn
  unfold Oper.wp execOp
  simp only [ho, resolve, invoke, builtin, Sem.run_bind, Sem.run_pure, Result.andThen_ok, List.map_toArray, List.map_cons, List.map_nil, hs, hx, hrun]
  exact h v' w' h2 h3 h4 h5 h6

theorem step_appI {ops : Array Oper} {o : Oper} {a : Act} {W : World} {K : Act → World → Prop} {Q : Exit → Act → World → Prop} {E : Prop} (hgd : o.guard = none) (s x : Operand)
    (ho : o.op = .call { callee := .builtin .append, args := #[s, x], argTypes := #[27, 27] })
    (B : Nat) (v : Value) (n : Nat) (L : List Value) (A : Option Addr) (m c : Nat) (news : List Value) (hs : a.eval s = v) (hx : a.eval x = .slice A m c) (hown : OwnI W B v n L) (hl : news.length = m * 1)
    (hA : A = none → m = 0) (hnews : ∀ a, A = some a → ∀ j u, news[j]? = some u → W.cell? (a.add j) = some u) (h1 : ∀ u ∈ news, u.oneCell' = true) (hB : B ≤ W.heap.size) (hn : n + m ≤ 1000000000000)
    (h : ∀ v' w', OwnI w' B v' (n + m) (L ++ news) → W.grownBy w' v.ownBlock → Below B W w' → Moved W v v' → (∀ g cap, v = .slice (some ⟨g, 0, none⟩) n cap → n + m ≤ cap → v' = .slice (some ⟨g, 0, none⟩) (n + m) cap) → K (a.put o.dst v') w') :
    if Region.wanted o (yielded ops a.tmps) = true then Oper.wp Try.prog o a W K Q else E := by
  have hw : Region.wanted o (yielded ops a.tmps) = true := by simp [Region.wanted, hgd]
  rw [if_pos hw]
  exact wp_appI s x ho B v n L A m c news hs hx hown hl hA hnews h1 hB hn h

end Go.Proofs.Ytnccpifdajcejaa
