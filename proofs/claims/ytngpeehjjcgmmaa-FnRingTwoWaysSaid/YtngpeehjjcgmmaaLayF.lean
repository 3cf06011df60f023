/- The folds of a ring that some order of layers has are those that crimp down. No condition. -/
import Derived.Test.YtngpeehjjcgmmaaLayE
import Derived.Test.YtngpeehjjcgmmaaConfB
namespace Go.Proofs.Ytngpeehjjcgmmaa

/-- bits as a number -/
def mskF (q : Nat → Bool) : Nat → Nat → Nat
  | _, 0 => 0
  | s, m + 1 => 2 * mskF q (s + 1) m + (q s).toNat
theorem toNat_le (b : Bool) : b.toNat ≤ 1 := by cases b <;> decide
theorem mskF_lt (q : Nat → Bool) : ∀ m s, mskF q s m < 2 ^ m := by
  intro m
  induction m with
  | zero => intro s; simp [mskF]
  | succ m ih =>
    intro s
    have := ih (s + 1)
    have := toNat_le (q s)
    unfold mskF
    rw [Nat.pow_succ]; omega
theorem mskF_bit (q : Nat → Bool) : ∀ m s k, k < m → mskF q s m / 2 ^ k % 2 = (q (s + k)).toNat := by
  intro m
  induction m with
  | zero => intro s k h; omega
  | succ m ih =>
    intro s k h
    have hb := toNat_le (q s)
    unfold mskF
    cases k with
    | zero => simp; omega
    | succ k =>
      rw [Nat.pow_succ, Nat.mul_comm (2 ^ k) 2, ← Nat.div_div_eq_div_mul, show (2 * mskF q (s + 1) m + (q s).toNat) / 2 = mskF q (s + 1) m from by omega, ih (s + 1) k (by omega)]
      congr 2; omega
theorem mskF_congr {q q' : Nat → Bool} : ∀ m s s', (∀ k, k < m → q (s + k) = q' (s' + k)) → mskF q s m = mskF q' s' m := by
  intro m
  induction m with
  | zero => intro s s' _; rfl
  | succ m ih =>
    intro s s' h
    unfold mskF
    rw [ih (s + 1) (s' + 1) (fun k hk => by
      have := h (k + 1) (by omega)
      rw [show s + 1 + k = s + (k + 1) from by omega, show s' + 1 + k = s' + (k + 1) from by omega]; exact this)]
    have := h 0 (by omega)
    rw [Nat.add_zero, Nat.add_zero] at this
    rw [this]
theorem mskF_snoc (q : Nat → Bool) : ∀ m s, mskF q s (m + 1) = mskF q s m + (q (s + m)).toNat * 2 ^ m := by
  intro m
  induction m with
  | zero => intro s; simp [mskF]
  | succ m ih =>
    intro s
    have e : mskF q s (m + 1 + 1) = 2 * mskF q (s + 1) (m + 1) + (q s).toNat := rfl
    have e2 : mskF q s (m + 1) = 2 * mskF q (s + 1) m + (q s).toNat := rfl
    rw [e, e2, ih (s + 1), show s + 1 + m = s + (m + 1) from by omega, Nat.pow_succ, Nat.mul_add, ← Nat.mul_assoc, Nat.mul_comm (2 ^ m) 2, ← Nat.mul_assoc, Nat.mul_comm 2 (q (s + (m + 1))).toNat]
    omega
theorem codeN_msk (n : Nat) (lv : List Nat) : codeN n lv = mskF (bitN n lv) 0 n := by
  have key : ∀ m s, (List.range' s m).foldr (fun k a => 2 * a + (bitN n lv k).toNat) 0 = mskF (bitN n lv) s m := by
    intro m
    induction m with
    | zero => intro s; rfl
    | succ m ih => intro s; rw [List.range'_succ, List.foldr_cons, ih]; rfl
  unfold codeN
  rw [List.range_eq_range']
  exact key n 0
/-- the folds of a ring as a number -/
def codeF (n : Nat) (f : Nat → Nat) : Nat := mskF (fun k => f k == 86) 0 n
/-- some order of layers has the folds of a ring -/
def EF (n : Nat) (ps : List (List Nat)) (x : Nat → Int) (f : Nat → Nat) : Prop := EN n ps (patP n (pl x)) (codeF n f)
structure Tab (n : Nat) (ps : List (List Nat)) (tab : List Ent) : Prop where
  ok : tab.all (entOk n ps) = true
  pats : patsOk n tab = true
  rot : chkR n tab = true
theorem tabs2 : Tab 2 perms2 tab2 := ⟨tab2_ok, pats2, rot2⟩
theorem tabs4 : Tab 4 perms4 tab4 := ⟨tab4_ok, pats4, rot4⟩
theorem tabs6 : Tab 6 perms6 tab6 := ⟨tab6_ok, pats6, rot6⟩
theorem ef_iff {n : Nat} {ps : List (List Nat)} {tab : List Ent} (T : Tab n ps tab) {x : Nat → Int} {f : Nat → Nat} (h : RingF n x f) : EF n ps x f ↔ codeF n f ∈ look tab (patP n (pl x)) :=
  look_iff T.ok (pat_in h T.pats) _
theorem look_ent {tab : List Ent} {r : List Nat} {c : Nat} (h : c ∈ look tab r) : ∃ e, e ∈ tab ∧ e.1 = r ∧ ∃ d, d ∈ e.2.2.2 ∧ d.1 = c := by
  unfold look at h
  cases he : tab.find? (fun e => e.1 == r) with
  | none => rw [he] at h; simp at h
  | some e =>
    rw [he] at h
    obtain ⟨d, hd, hc⟩ := List.mem_map.1 h
    have h2 := List.find?_some he
    rw [beq_iff_eq] at h2
    exact ⟨e, List.mem_of_find?_eq_some he, h2, d, hd, hc⟩
theorem code_turn {n : Nat} (f : Nat → Nat) (hn : 1 ≤ n) : codeF n (rotF n 1 f) = rotC n (codeF n f) := by
  obtain ⟨m, rfl⟩ : ∃ m, n = m + 1 := ⟨n - 1, by omega⟩
  unfold codeF rotC
  rw [mskF_snoc]
  have e1 : mskF (fun k => rotF (m + 1) 1 f k == 86) 0 m = mskF (fun k => f k == 86) 1 m := by
    refine mskF_congr m 0 1 fun k hk => ?_
    unfold rotF
    rw [show 0 + k + 1 = 1 + k from by omega, Nat.mod_eq_of_lt (by omega)]
  have e2 : rotF (m + 1) 1 f (0 + m) = f 0 := by unfold rotF; rw [Nat.zero_add, Nat.mod_self]
  rw [e1, e2]
  have e3 : mskF (fun k => f k == 86) 0 (m + 1) = 2 * mskF (fun k => f k == 86) 1 m + (f 0 == 86).toNat := rfl
  have hb := toNat_le (f 0 == 86)
  rw [e3, show m + 1 - 1 = m from rfl, show (2 * mskF (fun k => f k == 86) 1 m + (f 0 == 86).toNat) / 2 = mskF (fun k => f k == 86) 1 m from by omega, show (2 * mskF (fun k => f k == 86) 1 m + (f 0 == 86).toNat) % 2 = (f 0 == 86).toNat from by omega]
theorem ef_turn {n : Nat} {ps : List (List Nat)} {tab : List Ent} (T : Tab n ps tab) {x : Nat → Int} {f : Nat → Nat} (h : RingF n x f) (he : EF n ps x f) : EF n ps (rotF n 1 x) (rotF n 1 f) := by
  have hn : 2 ≤ n := by rcases h.size with e | e | e <;> omega
  rw [ef_iff T h.turn, pat_turn h, code_turn f (by omega)]
  obtain ⟨e, h1, h2, d, h3, h4⟩ := look_ent ((ef_iff T h).1 he)
  have := List.all_eq_true.1 (List.all_eq_true.1 T.rot e h1) d h3
  obtain ⟨b, hb, hbe⟩ := List.any_eq_true.1 this
  rw [h2] at hb
  rw [← h4, ← Nat.eq_of_beq_eq_true hbe]
  exact hb
theorem rotF_succ {α : Type} (n k : Nat) (x : Nat → α) : rotF n (k + 1) x = rotF n 1 (rotF n k x) := by
  funext j
  unfold rotF
  rw [Nat.mod_add_mod]
  congr 2; omega
theorem ring_congr {n : Nat} {x x' : Nat → Int} {f f' : Nat → Nat} (h : RingF n x f) (hx : ∀ k, k < n → x k = x' k) (hf : ∀ k, k < n → f k = f' k) : RingF n x' f' :=
  ⟨h.size, fun k hk => by rw [← hx k hk]; exact h.pos k hk, by rw [← pl_congr hx n (Nat.le_refl _)]; exact h.shut, fun k hk => by rw [← hf k hk]; exact h.bin k hk⟩
theorem ef_congr {n : Nat} {ps : List (List Nat)} {x x' : Nat → Int} {f f' : Nat → Nat} (hx : ∀ k, k < n → x k = x' k) (hf : ∀ k, k < n → f k = f' k) (h : EF n ps x f) : EF n ps x' f' := by
  have e1 : patP n (pl x) = patP n (pl x') := by
    unfold patP
    refine List.map_congr_left fun i hi => ?_
    rw [List.mem_range] at hi
    unfold rk
    refine List.countP_congr fun j hj => ?_
    rw [List.mem_range] at hj
    rw [pl_congr hx i (by omega), pl_congr hx j (by omega)]
  have e2 : codeF n f = codeF n f' := mskF_congr n 0 0 fun k hk => by rw [Nat.zero_add, hf k hk]
  unfold EF at h ⊢
  rw [← e1, ← e2]; exact h
theorem ring_turn {n : Nat} {x : Nat → Int} {f : Nat → Nat} (h : RingF n x f) : ∀ k, RingF n (rotF n k x) (rotF n k f) := by
  intro k
  induction k with
  | zero => exact ring_congr h (fun j hj => by unfold rotF; rw [Nat.add_zero, Nat.mod_eq_of_lt hj]) (fun j hj => by unfold rotF; rw [Nat.add_zero, Nat.mod_eq_of_lt hj])
  | succ k ih => rw [rotF_succ n k x, rotF_succ n k f]; exact ih.turn
theorem ef_turns {n : Nat} {ps : List (List Nat)} {tab : List Ent} (T : Tab n ps tab) {x : Nat → Int} {f : Nat → Nat} (h : RingF n x f) (he : EF n ps x f) : ∀ k, EF n ps (rotF n k x) (rotF n k f) := by
  intro k
  induction k with
  | zero => exact ef_congr (fun j hj => by unfold rotF; rw [Nat.add_zero, Nat.mod_eq_of_lt hj]) (fun j hj => by unfold rotF; rw [Nat.add_zero, Nat.mod_eq_of_lt hj]) he
  | succ k ih => rw [rotF_succ n k x, rotF_succ n k f]; exact ef_turn T (ring_turn h k) ih
theorem ef_turn_iff {n : Nat} {ps : List (List Nat)} {tab : List Ent} (T : Tab n ps tab) {x : Nat → Int} {f : Nat → Nat} (h : RingF n x f) {k : Nat} (hk : k ≤ n) : EF n ps x f ↔ EF n ps (rotF n k x) (rotF n k f) := by
  refine ⟨fun he => ef_turns T h he k, fun he => ?_⟩
  have := ef_turns T (ring_turn h k) he (n - k)
  have e : ∀ {α : Type} (z : Nat → α) (j : Nat), j < n → rotF n (n - k) (rotF n k z) j = z j := by
    intro α z j hj
    unfold rotF
    rw [Nat.mod_add_mod, show j + (n - k) + k = j + n from by omega, Nat.add_mod_right, Nat.mod_eq_of_lt hj]
  exact ef_congr (fun j hj => e x j hj) (fun j hj => e f j hj) this
theorem rot_seg {n k : Nat} {x : Nat → Int} {f : Nat → Nat} (hk : k ≤ n) : Rot (seg x f 0 n) (seg (rotF n k x) (rotF n k f) 0 n) := by
  have e1 : seg x f 0 n = seg x f 0 k ++ seg x f k (n - k) := by
    have := seg_app x f 0 k (n - k)
    rw [show k + (n - k) = n from by omega, Nat.zero_add] at this
    exact this
  have e2 : seg (rotF n k x) (rotF n k f) 0 n = seg x f k (n - k) ++ seg x f 0 k := by
    have := seg_app (rotF n k x) (rotF n k f) 0 (n - k) k
    rw [show n - k + k = n from by omega, Nat.zero_add] at this
    rw [this]
    have h1 : ∀ {α : Type} (z : Nat → α) (j : Nat), j < n - k → rotF n k z (0 + j) = z (k + j) := by
      intro α z j hj
      unfold rotF
      rw [Nat.mod_eq_of_lt (by omega)]; congr 1; omega
    have h2 : ∀ {α : Type} (z : Nat → α) (j : Nat), j < k → rotF n k z (n - k + j) = z (0 + j) := by
      intro α z j hj
      unfold rotF
      rw [show n - k + j + k = j + n from by omega, Nat.add_mod_right, Nat.mod_eq_of_lt (by omega)]; congr 1; omega
    rw [seg_congr (fun j hj => h1 x j hj) (fun j hj => h1 f j hj), seg_congr (fun j hj => h2 x j hj) (fun j hj => h2 f j hj)]
  rw [e1, e2]
  exact rot_mk _ _
theorem code_crimp {n : Nat} (f : Nat → Nat) (hn : 4 ≤ n) : codeF (n - 2) (crF f) = crC (codeF n f) := by
  obtain ⟨m, rfl⟩ : ∃ m, n = m + 3 := ⟨n - 3, by omega⟩
  unfold codeF crC
  have e1 : mskF (fun k => crF f k == 86) 0 (m + 3 - 2) = 2 * mskF (fun k => crF f k == 86) 1 m + (f 0 == 86).toNat := rfl
  have e2 : mskF (fun k => crF f k == 86) 1 m = mskF (fun k => f k == 86) 3 m := by
    refine mskF_congr m 1 3 fun k _ => ?_
    have : crF f (1 + k) = f (3 + k) := by
      unfold crF
      rw [show 1 + k = k + 1 from by omega]
      show f (k + 3) = _
      congr 1; omega
    rw [this]
  have e3 : mskF (fun k => f k == 86) 0 (m + 3) = 2 * (2 * (2 * mskF (fun k => f k == 86) 3 m + (f 2 == 86).toNat) + (f 1 == 86).toNat) + (f 0 == 86).toNat := rfl
  have b0 := toNat_le (f 0 == 86)
  have b1 := toNat_le (f 1 == 86)
  have b2 := toNat_le (f 2 == 86)
  rw [e1, e2, e3]
  omega
theorem bit_ne {f g : Nat} (hf : f = 77 ∨ f = 86) (hg : g = 77 ∨ g = 86) : (f == 86).toNat = (g == 86).toNat ↔ f = g := by
  rcases hf with rfl | rfl <;> rcases hg with rfl | rfl <;> decide
theorem ef_crimp {n : Nat} {ps ps' : List (List Nat)} {tab tab' : List Ent} (T : Tab n ps tab) (T' : Tab (n - 2) ps' tab') (hC : chkC n tab tab' = true) (h4 : 4 ≤ n) {x : Nat → Int} {f : Nat → Nat} (h : RingF n x f) (h1 : x 1 ≤ x 0) (h2 : x 1 ≤ x 2) (h3 : f 1 ≠ f 2) : EF n ps x f ↔ EF (n - 2) ps' (crX x) (crF f) := by
  rw [ef_iff T h, ef_iff T' (h.crimp h4 h1), pat_crimp, code_crimp f h4]
  obtain ⟨e, he, hr⟩ := List.any_eq_true.1 (pat_in h T.pats)
  rw [beq_iff_eq] at hr
  have hc := List.all_eq_true.1 hC e he
  rw [hr] at hc
  have g1 : Nat.ble (gd (patP n (pl x)) 0) (gd (patP n (pl x)) 2) = true := by
    rw [Nat.ble_eq, gd_le (by omega) (by omega)]
    simp [pl]; omega
  have g2 : Nat.ble (gd (patP n (pl x)) 1) (gd (patP n (pl x)) 3) = true := by
    rw [Nat.ble_eq, gd_le (by omega) (by omega)]
    simp [pl]; omega
  rw [g1, g2] at hc
  simp only [Bool.and_self, Bool.not_true, Bool.false_or] at hc
  have hcc := List.all_eq_true.1 hc (codeF n f) (List.mem_range.2 (mskF_lt _ _ _))
  have hb1 : codeF n f / 2 % 2 = (f 1 == 86).toNat := by have := mskF_bit (fun k => f k == 86) n 0 1 (by omega); simpa [codeF] using this
  have hb2 : codeF n f / 4 % 2 = (f 2 == 86).toNat := by have := mskF_bit (fun k => f k == 86) n 0 2 (by omega); simpa [codeF] using this
  have hne : Nat.beq (codeF n f / 2 % 2) (codeF n f / 4 % 2) = false := by
    rw [hb1, hb2]
    cases hq : Nat.beq (f 1 == 86).toNat (f 2 == 86).toNat with
    | false => rfl
    | true => exact absurd ((bit_ne (h.bin 1 (by omega)) (h.bin 2 (by omega))).1 (Nat.eq_of_beq_eq_true hq)) h3
  rw [hne] at hcc
  simp only [Bool.false_or, beq_iff_eq] at hcc
  have hl : (codeF n f ∈ look tab (patP n (pl x))) ↔ (e.2.2.2.any fun d => Nat.beq d.1 (codeF n f)) = true := by
    rw [← look_iff T.ok (pat_in h T.pats), ← hr, ent_iff (List.all_eq_true.1 T.ok e he), List.any_eq_true, List.mem_map]
    constructor
    · rintro ⟨d, hd, hde⟩; exact ⟨d, hd, by rw [hde]; exact Nat.beq_refl _⟩
    · rintro ⟨d, hd, hde⟩; exact ⟨d, hd, Nat.eq_of_beq_eq_true hde⟩
  rw [hl, hcc, List.any_eq_true]
  constructor
  · rintro ⟨d, hd, hde⟩; rw [← Nat.eq_of_beq_eq_true hde]; exact hd
  · intro hd; exact ⟨_, hd, Nat.beq_refl _⟩
theorem pl_two {n : Nat} {x : Nat → Int} {f : Nat → Nat} (h : RingF n x f) {k : Nat} (hk : k < n) : pl x ((k + 2) % n) = if k % 2 = 0 then pl x k + x k - x ((k + 1) % n) else pl x k - x k + x ((k + 1) % n) := by
  have hn : 2 ≤ n ∧ n % 2 = 0 := by rcases h.size with e | e | e <;> omega
  have hs := h.shut
  have r1 : pl x (k + 1) = if k % 2 = 0 then pl x k + x k else pl x k - x k := rfl
  by_cases hk1 : k + 1 = n
  · have e2 : (k + 2) % n = 1 := by
      rw [show k + 2 = 1 + n from by omega, Nat.add_mod_right, Nat.mod_eq_of_lt (by omega)]
    rw [e2, show (k + 1) % n = 0 from by rw [hk1, Nat.mod_self], if_neg (by omega)]
    rw [if_neg (by omega), hk1, hs] at r1
    have : pl x 1 = x 0 := by simp [pl]
    omega
  · have r2 : pl x (k + 1 + 1) = if (k + 1) % 2 = 0 then pl x (k + 1) + x (k + 1) else pl x (k + 1) - x (k + 1) := rfl
    have e3 : (k + 1) % n = k + 1 := Nat.mod_eq_of_lt (by omega)
    have e4 : pl x ((k + 2) % n) = pl x (k + 1 + 1) := by
      by_cases hk2 : k + 2 = n
      · rw [show (k + 2) % n = 0 from by rw [hk2, Nat.mod_self], show k + 1 + 1 = n from hk2, hs]; rfl
      · rw [Nat.mod_eq_of_lt (by omega)]
    rw [e3, e4, r2]
    by_cases hk3 : k % 2 = 0
    · rw [if_pos hk3] at r1 ⊢
      rw [if_neg (by omega)]; omega
    · rw [if_neg hk3] at r1 ⊢
      rw [if_pos (by omega)]; omega
theorem leN_iff {n : Nat} {x : Nat → Int} {f : Nat → Nat} (h : RingF n x f) {k : Nat} (hk : k < n) : leN n (patP n (pl x)) k = true ↔ x k ≤ x ((k + 1) % n) := by
  have h2 := pl_two h hk
  have hm : (k + 2) % n < n := Nat.mod_lt _ (by omega)
  unfold leN
  by_cases hk3 : k % 2 = 0
  · rw [if_pos hk3] at h2 ⊢
    rw [Nat.ble_eq, gd_le hm hk]; omega
  · rw [if_neg hk3] at h2 ⊢
    rw [Nat.ble_eq, gd_le hk hm]; omega
theorem geN_iff {n : Nat} {x : Nat → Int} {f : Nat → Nat} (h : RingF n x f) {k : Nat} (hk : k < n) : geN n (patP n (pl x)) k = true ↔ x ((k + 1) % n) ≤ x k := by
  have h2 := pl_two h hk
  have hm : (k + 2) % n < n := Nat.mod_lt _ (by omega)
  unfold geN
  by_cases hk3 : k % 2 = 0
  · rw [if_pos hk3] at h2 ⊢
    rw [Nat.ble_eq, gd_le hk hm]; omega
  · rw [if_neg hk3] at h2 ⊢
    rw [Nat.ble_eq, gd_le hm hk]; omega
theorem least_one (x : Nat → Int) : ∀ n, ∃ k, k < n + 1 ∧ ∀ j, j < n + 1 → x k ≤ x j := by
  intro n
  induction n with
  | zero => exact ⟨0, by omega, fun j hj => by rw [show j = 0 from by omega]; exact Int.le_refl _⟩
  | succ n ih =>
    obtain ⟨k, hk, hm⟩ := ih
    by_cases hc : x k ≤ x (n + 1)
    · refine ⟨k, by omega, fun j hj => ?_⟩
      by_cases e : j = n + 1
      · rw [e]; exact hc
      · exact hm j (by omega)
    · refine ⟨n + 1, by omega, fun j hj => ?_⟩
      by_cases e : j = n + 1
      · rw [e]; exact Int.le_refl _
      · have := hm j (by omega); omega
theorem ef_dead {n : Nat} {ps : List (List Nat)} {tab : List Ent} (T : Tab n ps tab) (hD : chkD n tab = true) {x : Nat → Int} {f : Nat → Nat} (h : RingF n x f) (hno : ∀ k, k < n → (∀ j, j < n → x k ≤ x j) → f k = f ((k + 1) % n)) : ¬ EF n ps x f := by
  intro he
  have hn : 2 ≤ n ∧ n % 2 = 0 := by rcases h.size with e | e | e <;> omega
  obtain ⟨e, h1, h2, d, h3, h4⟩ := look_ent ((ef_iff T h).1 he)
  obtain ⟨q, hq⟩ : ∃ q : Nat → Bool, q = fun k => (List.range n).all fun j => decide (x k ≤ x j) := ⟨_, rfl⟩
  have hqi : ∀ k, q k = true ↔ ∀ j, j < n → x k ≤ x j := by
    intro k
    rw [hq]
    simp [List.all_eq_true]
  obtain ⟨M, hM⟩ : ∃ M, M = mskF q 0 n := ⟨_, rfl⟩
  have hin : ∀ k, k < n → inM M k = q k := by
    intro k hk
    have := mskF_bit q n 0 k hk
    rw [Nat.zero_add] at this
    unfold inM
    rw [hM, this]
    cases q k <;> rfl
  have hml : ∀ k, (k + 1) % n < n ∧ (k + n - 1) % n < n := fun k => ⟨Nat.mod_lt _ (by omega), Nat.mod_lt _ (by omega)⟩
  have hnx : ∀ k, k < n → ((k + n - 1) % n + 1) % n = k := by
    intro k hk
    rw [Nat.mod_add_mod, show k + n - 1 + 1 = k + n from by omega, Nat.add_mod_right, Nat.mod_eq_of_lt hk]
  have hmin : minM n (patP n (pl x)) M = true := by
    unfold minM
    rw [List.all_eq_true]
    intro k hk
    rw [List.mem_range] at hk
    obtain ⟨hm1, hm2⟩ := hml k
    cases hqk : q k with
    | false => rw [hin k hk, hqk]; rfl
    | true =>
      have hall := (hqi k).1 hqk
      have hl := (leN_iff h hk).2 (hall _ hm1)
      have hg := (geN_iff h hm2).2 (by rw [hnx k hk]; exact hall _ hm2)
      rw [hin k hk, hqk, hl, hg, hin _ hm1, hin _ hm2]
      simp only [Bool.not_true, Bool.false_or, Bool.true_and, Bool.and_eq_true, Bool.or_eq_true, Bool.not_eq_true']
      constructor
      · cases hge : geN n (patP n (pl x)) k with
        | false => exact Or.inl rfl
        | true =>
          have := (geN_iff h hk).1 hge
          exact Or.inr ((hqi _).2 fun j hj => Int.le_trans this (hall j hj))
      · cases hle : leN n (patP n (pl x)) ((k + n - 1) % n) with
        | false => exact Or.inl rfl
        | true =>
          have := (leN_iff h hm2).1 hle
          rw [hnx k hk] at this
          exact Or.inr ((hqi _).2 fun j hj => Int.le_trans this (hall j hj))
  have hM0 : Nat.beq M 0 = false := by
    obtain ⟨m, rfl⟩ : ∃ m, n = m + 1 := ⟨n - 1, by omega⟩
    obtain ⟨k, hk, hkm⟩ := least_one x m
    have := hin k hk
    rw [(hqi k).2 hkm] at this
    cases hb : Nat.beq M 0 with
    | false => rfl
    | true =>
      rw [Nat.eq_of_beq_eq_true hb] at this
      unfold inM at this
      simp at this
  have hd := List.all_eq_true.1 (List.all_eq_true.1 hD e h1) M (List.mem_range.2 (by rw [hM]; exact mskF_lt _ _ _))
  rw [h2, hM0, hmin] at hd
  simp only [Bool.not_true, Bool.false_or] at hd
  obtain ⟨k, hk, hkk⟩ := List.any_eq_true.1 (List.all_eq_true.1 hd d h3)
  rw [List.mem_range] at hk
  simp only [Bool.and_eq_true, Bool.not_eq_true'] at hkk
  obtain ⟨hk1, hk2⟩ := hkk
  rw [hin k hk] at hk1
  have hff := hno k hk ((hqi k).1 hk1)
  have hb1 := mskF_bit (fun k => f k == 86) n 0 k hk
  have hb2 := mskF_bit (fun k => f k == 86) n 0 ((k + 1) % n) (hml k).1
  rw [h4] at hk2
  unfold codeF at hk2
  rw [hb1, hb2, Nat.zero_add, Nat.zero_add, hff] at hk2
  rw [Nat.beq_refl] at hk2
  cases hk2
theorem nxt_mod {n i : Nat} (hi : i < n) : nxt n i = (i + 1) % n := by
  unfold nxt
  split
  · rename_i h; rw [h, Nat.mod_self]
  · rw [Nat.mod_eq_of_lt (by omega)]
theorem crimp_seg {n : Nat} {x : Nat → Int} {f : Nat → Nat} (h4 : 4 ≤ n) (hne : f 1 ≠ f 2) (hmin : ∀ j, j < n → x 1 ≤ x j) : Step (seg x f 0 n) (seg (crX x) (crF f) 0 (n - 2)) := by
  obtain ⟨m, rfl⟩ : ∃ m, n = m + 3 := ⟨n - 3, by omega⟩
  have e1 : seg x f 0 (m + 3) = .F (f 0) :: .X (x 0) :: .F (f 1) :: .X (x 1) :: .F (f 2) :: .X (x 2) :: seg x f 3 m := rfl
  have e2 : seg (crX x) (crF f) 0 (m + 3 - 2) = .F (f 0) :: .X (x 0 + x 2 - x 1) :: seg x f 3 m := by
    have : seg (crX x) (crF f) 0 (m + 3 - 2) = .F (f 0) :: .X (x 0 + x 2 - x 1) :: seg (crX x) (crF f) 1 m := rfl
    rw [this, seg_congr (a := 1) (a' := 3) (x' := x) (f' := f)]
    · intro k _
      rw [show 1 + k = k + 1 from by omega]
      show x (k + 3) = _
      congr 1; omega
    · intro k _
      rw [show 1 + k = k + 1 from by omega]
      show f (k + 3) = _
      congr 1; omega
  refine step_mk (a := x 0) (g := f 1) (b := x 1) (h := f 2) (c := x 2) (rest := seg x f 3 m ++ [.F (f 0)]) ?_ ?_ hne ?_ ?_
  · rw [e1]
    exact rot_mk [.F (f 0)] (.X (x 0) :: .F (f 1) :: .X (x 1) :: .F (f 2) :: .X (x 2) :: seg x f 3 m)
  · rw [e2]
    exact (rot_mk [.F (f 0)] (.X (x 0 + x 2 - x 1) :: seg x f 3 m)).symm
  · intro y hy
    obtain ⟨k, hk, rfl⟩ := seg_X hy
    exact hmin _ (by omega)
  · rw [List.length_append, seg_len]
    simp; omega
theorem lay_step {n : Nat} {ps ps' : List (List Nat)} {tab tab' : List Ent} (T : Tab n ps tab) (T' : Tab (n - 2) ps' tab') (hC : chkC n tab tab' = true) (hD : chkD n tab = true) (h4 : 4 ≤ n) (he : n % 2 = 0)
    (IH : ∀ x f, RingF (n - 2) x f → (EF (n - 2) ps' x f ↔ Down (seg x f 0 (n - 2)))) {x : Nat → Int} {f : Nat → Nat} (h : RingF n x f) : EF n ps x f ↔ Down (seg x f 0 n) := by
  by_cases ha : ∃ i, i < n ∧ (∀ j, j < n → x i ≤ x j) ∧ f i ≠ f ((i + 1) % n)
  · obtain ⟨i, hi, hmin, hne⟩ := ha
    obtain ⟨k, hk⟩ : ∃ k, k = (i + n - 1) % n := ⟨_, rfl⟩
    have hkn : k < n := by rw [hk]; exact Nat.mod_lt _ (by omega)
    have hk1 : (1 + k) % n = i := by
      rw [hk, Nat.add_mod_mod, show 1 + (i + n - 1) = i + n from by omega, Nat.add_mod_right, Nat.mod_eq_of_lt hi]
    have hk2 : (2 + k) % n = (i + 1) % n := by
      rw [show 2 + k = 1 + (1 + k) from by omega, ← Nat.add_mod_mod, hk1, Nat.add_comm]
    have hr := ring_turn h k
    have y1 : rotF n k x 1 = x i := by unfold rotF; rw [hk1]
    have g1 : rotF n k f 1 = f i := by unfold rotF; rw [hk1]
    have g2 : rotF n k f 2 = f ((i + 1) % n) := by unfold rotF; rw [hk2]
    have hym : ∀ j, j < n → rotF n k x 1 ≤ rotF n k x j := fun j hj => by rw [y1]; exact hmin _ (Nat.mod_lt _ (by omega))
    have hgne : rotF n k f 1 ≠ rotF n k f 2 := by rw [g1, g2]; exact hne
    rw [ef_turn_iff T h (Nat.le_of_lt hkn), ef_crimp T T' hC h4 hr (hym 0 (by omega)) (hym 2 (by omega)) hgne, IH _ _ (hr.crimp h4 (hym 0 (by omega)))]
    rw [← down_iff (crimp_seg h4 hgne hym) (by rw [seg_len]; omega) (seg_bin hr.bin)]
    have hrot := rot_seg (n := n) (k := k) (x := x) (f := f) (Nat.le_of_lt hkn)
    exact ⟨fun d => d.rot hrot.symm, fun d => d.rot hrot⟩
  · constructor
    · intro hE
      refine absurd hE (ef_dead T hD h fun k hk hm => ?_)
      apply Classical.byContradiction
      intro hc
      exact ha ⟨k, hk, hm, hc⟩
    · intro d
      exfalso
      cases d with
      | two a g _ r =>
        have := r.len
        rw [seg_len] at this
        simp at this
        omega
      | step _ m s _ =>
        obtain ⟨i, hi, hal⟩ := step_allowed s
        obtain ⟨_, h2, h3⟩ := (allowed_iff hi).1 hal
        rw [nxt_mod hi] at h2
        exact ha ⟨i, hi, h3, h2⟩
theorem lay2 {x : Nat → Int} {f : Nat → Nat} (h : RingF 2 x f) : EF 2 perms2 x f ↔ Down (seg x f 0 2) := by
  rw [ef_iff tabs2 h, down_pair]
  have hs := h.shut
  have e0 : pl x 2 = x 0 - x 1 := by simp [pl]
  have hp0 := h.pos 0 (by omega)
  have e1 : pl x 1 = x 0 := by simp [pl]
  have hpat : patP 2 (pl x) = [0, 1] := by
    have r0 : rk 2 (pl x) 0 = 0 := by
      have : ¬ (pl x 1 < pl x 0) := by rw [e1]; show ¬ (x 0 < 0); omega
      simp [rk, List.range, List.range.loop, this]
    have r1 : rk 2 (pl x) 1 = 1 := by
      have : pl x 0 < pl x 1 := by rw [e1]; show 0 < x 0; omega
      simp [rk, List.range, List.range.loop, this]
    show [rk 2 (pl x) 0, rk 2 (pl x) 1] = _
    rw [r0, r1]
  have hl : look tab2 [0, 1] = [0, 3] := by decide
  rw [hpat, hl]
  have hx : x 0 = x 1 := by rw [e0] at hs; omega
  have b0 := h.bin 0 (by omega)
  have b1 := h.bin 1 (by omega)
  have hc : codeF 2 f = 2 * (f 1 == 86).toNat + (f 0 == 86).toNat := by
    show 2 * (2 * 0 + (f 1 == 86).toNat) + (f 0 == 86).toNat = _
    omega
  rw [hc]
  constructor
  · intro hm
    refine ⟨hx, (bit_ne b0 b1).1 ?_⟩
    simp only [List.mem_cons, List.not_mem_nil, or_false] at hm
    have t0 := toNat_le (f 0 == 86)
    have t1 := toNat_le (f 1 == 86)
    omega
  · rintro ⟨_, hf⟩
    rw [hf]
    simp only [List.mem_cons, List.not_mem_nil, or_false]
    have t1 := toNat_le (f 1 == 86)
    omega
theorem lay4 {x : Nat → Int} {f : Nat → Nat} (h : RingF 4 x f) : EF 4 perms4 x f ↔ Down (seg x f 0 4) :=
  lay_step tabs4 tabs2 crimp4 dead4 (by omega) (by omega) (fun _ _ h => lay2 h) h
theorem lay6 {x : Nat → Int} {f : Nat → Nat} (h : RingF 6 x f) : EF 6 perms6 x f ↔ Down (seg x f 0 6) :=
  lay_step tabs6 tabs4 crimp6 dead6 (by omega) (by omega) (fun _ _ h => lay4 h) h
end Go.Proofs.Ytngpeehjjcgmmaa
