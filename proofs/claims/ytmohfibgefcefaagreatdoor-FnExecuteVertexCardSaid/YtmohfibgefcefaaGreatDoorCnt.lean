/- Counting texts: evenness, turning, bounds; a vertex that closes has folds. No program, no condition but sizes. -/
import Derived.Test.YtmohfibgefcefaaGreatDoorConfC
import Derived.Test.YtmohfibgefcefaaGreatDoorVMany
namespace Go.Proofs.YtmohfibgefcefaaGreatDoor

/-- for how many texts with n letters a test holds -/
def cntT : Nat → (List UInt8 → Bool) → Nat
  | 0, P => if P [] then 1 else 0
  | n + 1, P => cntT n (fun l => P (77 :: l)) + cntT n (fun l => P (86 :: l))
theorem cntT_congr {n : Nat} {P Q : List UInt8 → Bool} (h : ∀ l, l.length = n → P l = Q l) : cntT n P = cntT n Q := by
  induction n generalizing P Q with
  | zero => rw [cntT, cntT, h [] rfl]
  | succ n ih =>
    rw [cntT, cntT, ih (Q := fun l => Q (77 :: l)) (fun l hl => h (77 :: l) (by simp [hl])), ih (Q := fun l => Q (86 :: l)) (fun l hl => h (86 :: l) (by simp [hl]))]
theorem cntT_mono {n : Nat} {P Q : List UInt8 → Bool} (h : ∀ l, l.length = n → P l = true → Q l = true) : cntT n P ≤ cntT n Q := by
  induction n generalizing P Q with
  | zero =>
    rw [cntT, cntT]
    by_cases e : P [] = true
    · rw [if_pos e, if_pos (h [] rfl e)]; exact Nat.le_refl _
    · rw [if_neg e]; exact Nat.zero_le _
  | succ n ih =>
    rw [cntT, cntT]
    exact Nat.add_le_add (ih (Q := fun l => Q (77 :: l)) (fun l hl => h (77 :: l) (by simp [hl]))) (ih (Q := fun l => Q (86 :: l)) (fun l hl => h (86 :: l) (by simp [hl])))
theorem cntT_snoc (n : Nat) (P : List UInt8 → Bool) : cntT (n + 1) P = cntT n (fun l => P (l ++ [77])) + cntT n (fun l => P (l ++ [86])) := by
  induction n generalizing P with
  | zero => rfl
  | succ n ih =>
    rw [cntT, ih, ih]
    rw [cntT, cntT]
    simp only [List.cons_append]
    omega
theorem cntT_turn (n : Nat) (P Q : List UInt8 → Bool) (h : ∀ c l, l.length = n → P (l ++ [c]) = Q (c :: l)) : cntT (n + 1) P = cntT (n + 1) Q := by
  rw [cntT_snoc, cntT]
  rw [cntT_congr (Q := fun l => Q (77 :: l)) (fun l hl => h 77 l hl), cntT_congr (P := fun l => P (l ++ [86])) (Q := fun l => Q (86 :: l)) (fun l hl => h 86 l hl)]
theorem cntT_swap (n : Nat) (P : List UInt8 → Bool) : cntT n (fun l => P (l.map swB)) = cntT n P := by
  induction n generalizing P with
  | zero => rfl
  | succ n ih =>
    rw [cntT, cntT]
    have e1 := ih (fun l => P (86 :: l))
    have e2 := ih (fun l => P (77 :: l))
    have e3 : swB 77 = 86 := rfl
    have e4 : swB 86 = 77 := rfl
    simp only [List.map_cons, e3, e4]
    omega
theorem cntT_even (n : Nat) (P : List UInt8 → Bool) (h : ∀ l, P (l.map swB) = P l) : cntT (n + 1) P % 2 = 0 := by
  rw [cntT]
  have e : cntT n (fun l => P (86 :: l)) = cntT n (fun l => P (77 :: l)) := by
    rw [← cntT_swap n (fun l => P (77 :: l))]
    apply cntT_congr
    intro l _
    rw [← h (86 :: l)]
    rfl
  omega
theorem cntT_pos {n : Nat} {P : List UInt8 → Bool} {l : List UInt8} (hl : l.length = n) (hm : ∀ c ∈ l, mvB c = true) (h : P l = true) : 0 < cntT n P := by
  induction n generalizing P l with
  | zero =>
    have : l = [] := List.eq_nil_of_length_eq_zero hl
    subst this
    rw [cntT, if_pos h]; exact Nat.one_pos
  | succ n ih =>
    cases l with
    | nil => simp at hl
    | cons c r =>
      rw [cntT]
      have hc := hm c (by simp)
      have hr : ∀ c ∈ r, mvB c = true := fun d hd => hm d (by simp [hd])
      unfold mvB at hc
      simp only [Bool.or_eq_true, decide_eq_true_eq] at hc
      rcases hc with e | e
      · have : c = 77 := UInt8.toNat_inj.1 (by rw [e]; rfl)
        subst this
        have := ih (P := fun l => P (77 :: l)) (by simpa using hl) hr h
        omega
      · have : c = 86 := UInt8.toNat_inj.1 (by rw [e]; rfl)
        subst this
        have := ih (P := fun l => P (86 :: l)) (by simpa using hl) hr h
        omega
theorem cntT_zero {n : Nat} {P : List UInt8 → Bool} (h : ∀ l, P l = false) : cntT n P = 0 := by
  induction n generalizing P with
  | zero => rw [cntT, h]; rfl
  | succ n ih => rw [cntT, ih (fun l => h _), ih (fun l => h _)]

/-- by rank -/
def cntK (n : Nat) (P : List UInt8 → Bool) : Nat → Nat
  | 0 => 0
  | m + 1 => cntK n P m + (if P (txtL n m) then 1 else 0)
theorem cntK_congr {n n' m : Nat} {P Q : List UInt8 → Bool} (h : ∀ k, k < m → P (txtL n k) = Q (txtL n' k)) : cntK n P m = cntK n' Q m := by
  induction m with
  | zero => rfl
  | succ m ih => rw [cntK, cntK, ih (fun k hk => h k (by omega)), h m (by omega)]
theorem cntK_add (n : Nat) (P : List UInt8 → Bool) (a m : Nat) (Q : List UInt8 → Bool) (n' : Nat) (h : ∀ k, k < m → P (txtL n (a + k)) = Q (txtL n' k)) : cntK n P (a + m) = cntK n P a + cntK n' Q m := by
  induction m with
  | zero => rfl
  | succ m ih => rw [← Nat.add_assoc, cntK, ih (fun k hk => h k (by omega)), cntK, h m (by omega)]; omega
theorem bitL_low {k n : Nat} (h : k < 2 ^ n) : bitL k n = 77 := by
  unfold bitL
  rw [Nat.div_eq_of_lt h]; rfl
theorem bitL_high {k n : Nat} (h : k < 2 ^ n) : bitL (2 ^ n + k) n = 86 := by
  unfold bitL
  rw [show 2 ^ n + k = k + 2 ^ n * 1 from by omega, Nat.add_mul_div_left _ _ (Nat.two_pow_pos n), Nat.div_eq_of_lt h]; rfl
theorem bitL_drop {k n i : Nat} (h : i < n) : bitL (2 ^ n + k) i = bitL k i := by
  unfold bitL
  have e : (2 : Nat) ^ n = 2 ^ i * (2 * 2 ^ (n - i - 1)) := by
    rw [← Nat.pow_succ', ← Nat.pow_add]; congr 1; omega
  rw [e, Nat.add_comm, Nat.add_mul_div_left _ _ (Nat.two_pow_pos i), Nat.add_mul_mod_self_left]
theorem txtL_drop {k n m : Nat} (h : m ≤ n) : txtL m (2 ^ n + k) = txtL m k := by
  induction m with
  | zero => rfl
  | succ m ih => rw [txtL, txtL, ih (by omega), bitL_drop (by omega)]
theorem cntK_T (n : Nat) (P : List UInt8 → Bool) : cntK n P (2 ^ n) = cntT n P := by
  induction n generalizing P with
  | zero => rw [Nat.pow_zero, cntK, cntK, cntT, txtL, Nat.zero_add]
  | succ n ih =>
    rw [Nat.pow_succ, Nat.mul_two, cntK_add (n + 1) P (2 ^ n) (2 ^ n) (fun l => P (86 :: l)) n (fun k hk => by rw [txtL, bitL_high hk, txtL_drop (Nat.le_refl _)]), cntT, ← ih, ← ih]
    congr 1
    exact cntK_congr fun k hk => by rw [txtL, bitL_low hk]
theorem cntV_K (xs : List Int) (m : Nat) : cntV xs m = cntK xs.length (fun l => vfB xs (bts l)) m := by
  induction m with
  | zero => rfl
  | succ m ih => rw [cntV, cntK, ih]; rfl
theorem cntV_T (xs : List Int) : cntV xs (2 ^ xs.length) = cntT xs.length (fun l => vfB xs (bts l)) := by rw [cntV_K, cntK_T]

/-- a vertex turned by one -/
theorem cntT_turn1 (x : Int) (r : List Int) : cntT (r ++ [x]).length (fun l => vfB (r ++ [x]) (bts l)) = cntT (x :: r).length (fun l => vfB (x :: r) (bts l)) := by
  rw [List.length_append, List.length_cons]
  apply cntT_turn
  intro c l hl
  have hl' : r.length = l.length := hl.symm
  exact vf_turn (u := [x]) (v := r) (u' := [c]) (v' := l) rfl hl'
theorem cntT_turns (u v : List Int) : cntT (v ++ u).length (fun l => vfB (v ++ u) (bts l)) = cntT (u ++ v).length (fun l => vfB (u ++ v) (bts l)) := by
  induction u generalizing v with
  | nil => simp
  | cons x u ih =>
    have h1 := cntT_turn1 x (u ++ v)
    have h2 := ih (v ++ [x])
    simp only [List.append_assoc, List.cons_append, List.nil_append] at h1 h2 ⊢
    rw [h2, h1]
theorem vm_turn (u v : List Int) : vmI (v ++ u) = vmI (u ++ v) := by
  have hav : avB (v ++ u) = avB (u ++ v) := by rw [Bool.eq_iff_iff]; exact ⟨avB_turn, avB_turn⟩
  unfold vmI
  rw [hav, cntV_T, cntV_T, cntT_turns]
theorem vm_even {xs : List Int} (h : avB xs = true) : vmI xs % 2 = 0 := by
  unfold vmI
  rw [if_pos h, cntV_T]
  obtain ⟨n, hn⟩ : ∃ n, xs.length = n + 1 := ⟨xs.length - 1, by have := (avB_parts h).2.1; omega⟩
  have := cntT_even n (fun l => vfB xs (bts l)) (fun l => vf_swap xs l)
  rw [← hn] at this
  omega
/-- balances of two -/
def bal2 (l : List UInt8) : Bool := balT l == 2 || balT l == -2
theorem cnt_bal2 : cntT 2 bal2 = 2 ∧ cntT 4 bal2 = 8 ∧ cntT 6 bal2 = 30 ∧ cntT 8 bal2 = 112 := by decide +kernel
theorem vf_bal2 {xs : List Int} {l : List UInt8} (h : vfB xs (bts l) = true) : bal2 l = true := by
  unfold bal2
  rcases vf_bal h with e | e <;> rw [e] <;> rfl
theorem vm_le {xs : List Int} {n m : Nat} (hn : xs.length = n) (hm : cntT n bal2 = m) (h : avB xs = true) : vmI xs ≤ (m : Int) := by
  unfold vmI
  rw [if_pos h, cntV_T, hn]
  have := cntT_mono (n := n) (P := fun l => vfB xs (bts l)) (Q := bal2) (fun l _ hl => vf_bal2 hl)
  omega

/-- the least of a list stands behind another one, read round -/
theorem least_round {xs : List Int} (h : 4 ≤ xs.length) : ∃ u v a b c rest, xs = u ++ v ∧ v ++ u = a :: b :: c :: rest ∧ ∀ x ∈ xs, b ≤ x := by
  have hmin : ∃ b ∈ xs, ∀ x ∈ xs, b ≤ x := by
    have : ∀ l : List Int, l ≠ [] → ∃ b ∈ l, ∀ x ∈ l, b ≤ x := by
      intro l
      induction l with
      | nil => intro h; exact absurd rfl h
      | cons y r ih =>
        intro _
        cases hr : r with
        | nil => exact ⟨y, by simp, by simp⟩
        | cons z t =>
          obtain ⟨b, hb, hbm⟩ := ih (by rw [hr]; simp)
          rw [← hr]
          by_cases e : y ≤ b
          · exact ⟨y, by simp, fun x hx => by rcases List.mem_cons.1 hx with rfl | hx; exact Int.le_refl _; exact Int.le_trans e (hbm x hx)⟩
          · exact ⟨b, by simp [hb], fun x hx => by rcases List.mem_cons.1 hx with rfl | hx; omega; exact hbm x hx⟩
    exact this xs (by intro e; subst e; simp at h)
  obtain ⟨b, hb, hbm⟩ := hmin
  obtain ⟨p, q, rfl⟩ := List.append_of_mem hb
  rcases List.eq_nil_or_concat p with rfl | ⟨p', a, rfl⟩
  · rcases List.eq_nil_or_concat q with rfl | ⟨q', a, rfl⟩
    · simp at h
    · cases q' with
      | nil => simp at h
      | cons c rest => exact ⟨b :: c :: rest, [a], a, b, c, rest, by simp, by simp, hbm⟩
  · have hq : ∃ c rest, q ++ p' = c :: rest := by
      cases hqp : q ++ p' with
      | nil =>
        have e3 : (q ++ p').length = 0 := by rw [hqp]; rfl
        rw [List.length_append] at e3
        simp at h
        omega
      | cons c rest => exact ⟨c, rest, rfl⟩
    obtain ⟨c, rest, e⟩ := hq
    exact ⟨p', a :: b :: q, a, b, c, rest, by simp, by simp [e], hbm⟩
/-- every balanced ring has folds that come down -/
theorem kawa : ∀ (g : Nat) (xs : List Int), xs.length = 2 * g + 2 → altS xs = 0 → ∃ cs : List UInt8, cs.length = xs.length ∧ (∀ c ∈ cs, mvB c = true) ∧ Down (wl xs cs) := by
  intro g
  induction g with
  | zero =>
    intro xs hl ha
    match xs, hl with
    | [a, b], _ =>
      simp [altS] at ha
      have : a = b := by omega
      subst this
      exact ⟨[77, 77], rfl, by intro c hc; simp at hc; subst hc; rfl, .two a 77 _ (rot_mk [Ltr.F 77] [.X a, .F 77, .X a])⟩
  | succ g ih =>
    intro xs hl ha
    obtain ⟨u, v, a, b, c, rest, e1, e2, hmin⟩ := least_round (xs := xs) (by omega)
    have hal : altS (a :: b :: c :: rest) = 0 := by
      rw [← e2]
      rw [e1] at ha hl
      exact (altS_turn (by omega)).2 ha
    have hlen : rest.length + 3 = xs.length := by
      have := congrArg List.length e2
      rw [e1]
      simp at this ⊢
      omega
    obtain ⟨cs, hcl, hcm, hd⟩ := ih ((a + c - b) :: rest) (by simp; omega) (by simp only [altS] at hal ⊢; omega)
    cases cs with
    | nil => simp at hcl
    | cons d ds =>
      have hdl : ds.length = rest.length := by simpa using hcl
      -- the folds of the turned ring
      have hD : Down (wl (v ++ u) (d :: 77 :: 86 :: ds)) := by
        rw [e2]
        have q1 : Rot (wl (a :: b :: c :: rest) (d :: 77 :: 86 :: ds)) (Ltr.X a :: .F 77 :: .X b :: .F 86 :: .X c :: (wl rest ds ++ [Ltr.F d.toNat])) := rot_mk [Ltr.F d.toNat] (Ltr.X a :: .F 77 :: .X b :: .F 86 :: .X c :: wl rest ds)
        have q2 : Rot (Ltr.X (a + c - b) :: (wl rest ds ++ [Ltr.F d.toNat])) (wl ((a + c - b) :: rest) (d :: ds)) := rot_mk (Ltr.X (a + c - b) :: wl rest ds) [Ltr.F d.toNat]
        refine .step _ _ (step_mk q1 q2 (by decide) ?_ ?_) hd
        · intro x hx
          apply hmin
          have hx2 : x ∈ a :: b :: c :: rest := by
            have : ∀ (ys : List Int) (es : List UInt8), Ltr.X x ∈ wl ys es → x ∈ ys := by
              intro ys
              induction ys with
              | nil => intro es h; simp [wl] at h
              | cons y ys ih2 =>
                intro es h
                cases es with
                | nil => simp [wl] at h
                | cons e es =>
                  simp [wl] at h
                  rcases h with h | h
                  · exact List.mem_cons.2 (Or.inl h)
                  · exact List.mem_cons.2 (Or.inr (ih2 es h))
            exact this _ _ hx
          rw [← e2] at hx2
          rw [e1]
          rw [List.mem_append] at hx2 ⊢
          exact hx2.symm
        · have : (wl rest ds).length = 2 * rest.length := by
            have : ∀ (ys : List Int) (es : List UInt8), es.length = ys.length → (wl ys es).length = 2 * ys.length := by
              intro ys
              induction ys with
              | nil => intro es h; cases es <;> rfl
              | cons y ys ih2 =>
                intro es h
                cases es with
                | nil => simp at h
                | cons e es => simp [wl, ih2 es (by simpa using h)]; omega
            exact this _ _ hdl
          simp; omega
      obtain ⟨F, hF⟩ : ∃ F, F = d :: 77 :: 86 :: ds := ⟨_, rfl⟩
      have hFl : F.length = v.length + u.length := by
        have := congrArg List.length e2
        rw [hF]; simp at this ⊢; omega
      have hFm : ∀ c ∈ F, mvB c = true := by
        rw [hF]; intro c hc
        simp at hc
        rcases hc with rfl | rfl | rfl | hc
        · exact hcm _ (by simp)
        · rfl
        · rfl
        · exact hcm _ (by simp [hc])
      rw [← hF] at hD
      refine ⟨F.drop v.length ++ F.take v.length, by rw [e1]; simp; omega, ?_, ?_⟩
      · intro c hc
        rw [List.mem_append] at hc
        rcases hc with hc | hc
        · exact hFm c (List.mem_of_mem_drop hc)
        · exact hFm c (List.mem_of_mem_take hc)
      · rw [← List.take_append_drop v.length F, wl_app (by rw [List.length_take]; omega)] at hD
        rw [e1, wl_app (by rw [List.length_drop]; omega)]
        exact hD.rot (rot_mk _ _)
theorem vm_pos {xs : List Int} (h : avB xs = true) : decide (0 < vmI xs) = acB xs := by
  have hv := avB_parts h
  cases ha : acB xs with
  | false =>
    have e : vmI xs = 0 := by
      unfold vmI
      rw [if_pos h, cntV_T, cntT_zero (fun l => by unfold vfB; rw [ha]; rfl)]; rfl
    rw [e]; rfl
  | true =>
    obtain ⟨cs, hl, hm, hd⟩ := kawa ((xs.length - 2) / 2) xs (by omega) ((acB_iff xs).1 ha).2
    have hp : 0 < cntT xs.length (fun l => vfB xs (bts l)) := by
      refine cntT_pos (l := cs) hl hm (vfB_down.2 ⟨ha, ?_, hd⟩)
      rw [bts_list, fvB_iff]
      exact ⟨by omega, hm⟩
    rw [decide_eq_true_eq]
    unfold vmI
    rw [if_pos h, cntV_T]; omega
end Go.Proofs.YtmohfibgefcefaaGreatDoor
