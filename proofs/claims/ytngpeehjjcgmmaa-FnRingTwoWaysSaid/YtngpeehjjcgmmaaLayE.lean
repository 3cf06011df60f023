/- Patterns of the places of a ring: ranks, turned and crimped. No program, no condition. -/
import Derived.Test.YtngpeehjjcgmmaaLayD
namespace Go.Proofs.Ytngpeehjjcgmmaa

/-- where the part k of a ring begins -/
def pl (x : Nat → Int) : Nat → Int
  | 0 => 0
  | k + 1 => if k % 2 = 0 then pl x k + x k else pl x k - x k
/-- how many places lie below one -/
def rk (n : Nat) (p : Nat → Int) (i : Nat) : Nat := (List.range n).countP fun j => decide (p j < p i)
def patP (n : Nat) (p : Nat → Int) : List Nat := (List.range n).map (rk n p)
theorem gd_eq (l : List Nat) (k : Nat) : gd l k = (l[k]?).getD 0 := by
  induction l generalizing k with
  | nil => cases k <;> rfl
  | cons x r ih =>
    cases k with
    | zero => rfl
    | succ k => exact (ih k).trans (by simp)
theorem gd_map {n i : Nat} (f : Nat → Nat) (h : i < n) : gd ((List.range n).map f) i = f i := by
  rw [gd_eq, List.getElem?_map, List.getElem?_range h]; rfl
theorem countP_lt {l : List Nat} {q q' : Nat → Bool} (h : ∀ a ∈ l, q a = true → q' a = true) {b : Nat} (hb : b ∈ l) (h1 : q b = false) (h2 : q' b = true) : l.countP q < l.countP q' := by
  induction l with
  | nil => cases hb
  | cons a r ih =>
    have hle : r.countP q ≤ r.countP q' := List.countP_mono_left fun a ha => h a (List.mem_cons_of_mem _ ha)
    rw [List.countP_cons, List.countP_cons]
    rcases List.mem_cons.1 hb with rfl | hb
    · rw [h1, h2]; simp; omega
    · have := ih (fun a ha => h a (List.mem_cons_of_mem _ ha)) hb
      have h3 := h a (by simp)
      cases hq : q a with
      | false => simp; split <;> omega
      | true => rw [h3 hq]; simp; omega
theorem rk_lt {n : Nat} {p : Nat → Int} {i j : Nat} (hi : i < n) (h : p i < p j) : rk n p i < rk n p j := by
  refine countP_lt (b := i) (fun a _ ha => ?_) (List.mem_range.2 hi) (by simp) (by simpa using h)
  simp only [decide_eq_true_eq] at ha ⊢
  omega
theorem rk_eq {n : Nat} {p : Nat → Int} {i j : Nat} (h : p i = p j) : rk n p i = rk n p j := by unfold rk; rw [h]
theorem rk_iff {n : Nat} {p : Nat → Int} {i j : Nat} (hi : i < n) (hj : j < n) : rk n p i < rk n p j ↔ p i < p j := by
  constructor
  · intro h
    rcases Int.lt_trichotomy (p i) (p j) with h1 | h1 | h1
    · exact h1
    · have := rk_eq (n := n) h1; omega
    · have := rk_lt (n := n) hj h1; omega
  · exact rk_lt hi
theorem rk_bound {n : Nat} {p : Nat → Int} {i : Nat} (hi : i < n) : rk n p i < n := by
  have h1 : rk n p i < (List.range n).countP (fun _ => true) := countP_lt (b := i) (fun _ _ _ => rfl) (List.mem_range.2 hi) (by simp) rfl
  rw [List.countP_true, List.length_range] at h1
  exact h1
theorem gd_lt {n : Nat} {p : Nat → Int} {i j : Nat} (hi : i < n) (hj : j < n) : gd (patP n p) i < gd (patP n p) j ↔ p i < p j := by
  unfold patP
  rw [gd_map _ hi, gd_map _ hj]
  exact rk_iff hi hj
theorem gd_eqq {n : Nat} {p : Nat → Int} {i j : Nat} (hi : i < n) (hj : j < n) : gd (patP n p) i = gd (patP n p) j ↔ p i = p j := by
  have h1 := gd_lt (p := p) hi hj
  have h2 := gd_lt (p := p) hj hi
  omega
theorem gd_le {n : Nat} {p : Nat → Int} {i j : Nat} (hi : i < n) (hj : j < n) : gd (patP n p) i ≤ gd (patP n p) j ↔ p i ≤ p j := by
  have h2 := gd_lt (p := p) hj hi
  omega
/-- a ring of n parts that closes -/
structure RingF (n : Nat) (x : Nat → Int) (f : Nat → Nat) : Prop where
  size : n = 2 ∨ n = 4 ∨ n = 6
  pos : ∀ k, k < n → 1 ≤ x k
  shut : pl x n = 0
  bin : ∀ k, k < n → f k = 77 ∨ f k = 86
theorem pl_congr {x x' : Nat → Int} {n : Nat} (h : ∀ k, k < n → x k = x' k) : ∀ k, k ≤ n → pl x k = pl x' k := by
  intro k
  induction k with
  | zero => intro _; rfl
  | succ k ih =>
    intro hk
    unfold pl
    rw [ih (by omega), h k (by omega)]
theorem good_of {n : Nat} {x : Nat → Int} {f : Nat → Nat} (h : RingF n x f) : goodN n (patP n (pl x)) = true := by
  have hn : 2 ≤ n ∧ n % 2 = 0 := by rcases h.size with e | e | e <;> omega
  unfold goodN
  simp only [Bool.and_eq_true, List.all_eq_true, List.mem_range]
  refine ⟨?_, fun i hi => ?_⟩
  · have hlt : pl x 0 < pl x (n - 1) := by
      have hs := h.shut
      obtain ⟨m, rfl⟩ : ∃ m, n = m + 1 := ⟨n - 1, by omega⟩
      have hp := h.pos m (by omega)
      unfold pl at hs
      rw [if_neg (by omega)] at hs
      show 0 < pl x m
      omega
    have := (gd_lt (n := n) (p := pl x) (show 0 < n by omega) (show n - 1 < n by omega)).2 hlt
    rw [Nat.blt_eq]; exact this
  · have e : (List.range n).countP (fun j => Nat.blt (gd (patP n (pl x)) j) (gd (patP n (pl x)) i)) = rk n (pl x) i := by
      unfold rk
      refine List.countP_congr fun j hj => ?_
      rw [List.mem_range] at hj
      rw [Nat.blt_eq, decide_eq_true_eq]
      exact gd_lt hj hi
    rw [e]
    unfold patP
    rw [gd_map _ hi]
    exact Nat.beq_refl _
/-- a list that goes up and down -/
def UD (n : Nat) : List Nat → Prop
  | [] => True
  | v :: t => v < n ∧ UD n t ∧ ∀ y s, t = y :: s → if (n - 1 - t.length) % 2 = 0 then v < y else y < v
theorem ud_mem {n : Nat} : ∀ {t : List Nat}, UD n t → t ∈ upDown n t.length := by
  intro t
  induction t with
  | nil => intro _; simp [upDown]
  | cons v t ih =>
    rintro ⟨h1, h2, h3⟩
    rw [List.length_cons]
    unfold upDown
    refine List.mem_flatMap.2 ⟨t, ih h2, List.mem_map.2 ⟨v, List.mem_filter.2 ⟨List.mem_range.2 h1, ?_⟩, rfl⟩⟩
    cases t with
    | nil => rfl
    | cons y s =>
      have := h3 y s rfl
      show (if _ then Nat.blt v y else Nat.blt y v) = true
      split at this
      · rename_i hc; rw [if_pos hc]; rw [Nat.blt_eq]; exact this
      · rename_i hc; rw [if_neg hc]; rw [Nat.blt_eq]; exact this
theorem ud_of {n : Nat} {x : Nat → Int} (hn : n % 2 = 0) (hp : ∀ k, k < n → 1 ≤ x k) : ∀ (m k : Nat), k + m = n → UD n ((List.range' k m).map (rk n (pl x))) := by
  intro m
  induction m with
  | zero => intro k _; simp [UD]
  | succ m ih =>
    intro k hk
    rw [List.range'_succ, List.map_cons]
    refine ⟨rk_bound (by omega), ih (k + 1) (by omega), fun y s e => ?_⟩
    cases m with
    | zero => simp at e
    | succ m =>
      rw [List.range'_succ, List.map_cons] at e
      injection e with e1 _
      rw [← e1]
      have hx := hp k (by omega)
      have hpl : pl x (k + 1) = if k % 2 = 0 then pl x k + x k else pl x k - x k := rfl
      have hlen : ((List.range' (k + 1) (m + 1)).map (rk n (pl x))).length = m + 1 := by simp
      rw [hlen, show n - 1 - (m + 1) = k from by omega]
      by_cases hk2 : k % 2 = 0
      · rw [if_pos hk2] at hpl ⊢
        exact rk_lt (by omega) (by omega)
      · rw [if_neg hk2] at hpl ⊢
        exact rk_lt (by omega) (by omega)
theorem pat_in {n : Nat} {x : Nat → Int} {f : Nat → Nat} (h : RingF n x f) {tab : List Ent} (ht : patsOk n tab = true) : tab.any (fun e => e.1 == patP n (pl x)) = true := by
  have hn : n % 2 = 0 := by rcases h.size with e | e | e <;> omega
  have hu := ud_of hn h.pos n 0 (by omega)
  rw [← List.range_eq_range'] at hu
  have hm := ud_mem hu
  have hl : ((List.range n).map (rk n (pl x))).length = n := by simp
  rw [hl] at hm
  exact List.all_eq_true.1 ht _ (List.mem_filter.2 ⟨hm, good_of h⟩)
/-- turned by one -/
def rotF {α : Type} (n k : Nat) (x : Nat → α) : Nat → α := fun j => x ((j + k) % n)
theorem pl_turn {n : Nat} {x : Nat → Int} : ∀ j, j < n → pl (rotF n 1 x) j = x 0 - pl x (j + 1) := by
  intro j
  induction j with
  | zero => intro _; show (0 : Int) = x 0 - (if 0 % 2 = 0 then pl x 0 + x 0 else pl x 0 - x 0); rw [if_pos rfl]; show (0 : Int) = x 0 - (0 + x 0); omega
  | succ j ih =>
    intro hj
    have h1 := ih (by omega)
    have e : rotF n 1 x j = x (j + 1) := by unfold rotF; rw [Nat.mod_eq_of_lt (by omega)]
    have e1 : pl (rotF n 1 x) (j + 1) = if j % 2 = 0 then pl (rotF n 1 x) j + rotF n 1 x j else pl (rotF n 1 x) j - rotF n 1 x j := rfl
    have e2 : pl x (j + 1 + 1) = if (j + 1) % 2 = 0 then pl x (j + 1) + x (j + 1) else pl x (j + 1) - x (j + 1) := rfl
    rw [e1, e2, e, h1]
    by_cases hj2 : j % 2 = 0
    · rw [if_pos hj2, if_neg (by omega)]; omega
    · rw [if_neg hj2, if_pos (by omega)]; omega
theorem pl_turn_shut {n : Nat} {x : Nat → Int} (hs : pl x n = 0) (hn : 2 ≤ n) (he : n % 2 = 0) : pl (rotF n 1 x) n = 0 := by
  obtain ⟨m, rfl⟩ : ∃ m, n = m + 1 := ⟨n - 1, by omega⟩
  have h1 := pl_turn (n := m + 1) (x := x) m (by omega)
  have e1 : pl (rotF (m + 1) 1 x) (m + 1) = if m % 2 = 0 then pl (rotF (m + 1) 1 x) m + rotF (m + 1) 1 x m else pl (rotF (m + 1) 1 x) m - rotF (m + 1) 1 x m := rfl
  have e : rotF (m + 1) 1 x m = x 0 := by unfold rotF; rw [Nat.mod_self]
  rw [e1, if_neg (by omega), h1, e, hs]
  omega
theorem RingF.turn {n : Nat} {x : Nat → Int} {f : Nat → Nat} (h : RingF n x f) : RingF n (rotF n 1 x) (rotF n 1 f) := by
  have hn : 2 ≤ n ∧ n % 2 = 0 := by rcases h.size with e | e | e <;> omega
  exact ⟨h.size, fun k _ => h.pos _ (Nat.mod_lt _ (by omega)), pl_turn_shut h.shut hn.1 hn.2, fun k _ => h.bin _ (Nat.mod_lt _ (by omega))⟩
theorem pat_turn {n : Nat} {x : Nat → Int} {f : Nat → Nat} (h : RingF n x f) : patP n (pl (rotF n 1 x)) = rotN n (patP n (pl x)) := by
  have hn : 2 ≤ n ∧ n % 2 = 0 := by rcases h.size with e | e | e <;> omega
  have hw : ∀ j, j < n → pl x (j + 1) = pl x ((j + 1) % n) := by
    intro j hj
    by_cases e : j + 1 = n
    · rw [e, Nat.mod_self, h.shut]; rfl
    · rw [Nat.mod_eq_of_lt (by omega)]
  unfold patP rotN
  refine List.map_congr_left fun i hi => ?_
  rw [List.mem_range] at hi
  unfold rk
  refine List.countP_congr fun j hj => ?_
  rw [List.mem_range] at hj
  rw [Nat.blt_eq, decide_eq_true_eq, pl_turn j hj, pl_turn i hi, hw i hi, hw j hj]
  have := gd_lt (n := n) (p := pl x) (i := (i + 1) % n) (j := (j + 1) % n) (Nat.mod_lt _ (by omega)) (Nat.mod_lt _ (by omega))
  unfold patP rk at this
  omega
/-- crimped at the part 1 -/
def crX (x : Nat → Int) : Nat → Int := fun j => match j with | 0 => x 0 + x 2 - x 1 | k + 1 => x (k + 3)
def crF (f : Nat → Nat) : Nat → Nat := fun j => f (sgN j)
theorem pl_crimp (x : Nat → Int) : ∀ j, pl (crX x) j = pl x (sgN j) := by
  intro j
  induction j with
  | zero => rfl
  | succ j ih =>
    cases j with
    | zero =>
      show (if 0 % 2 = 0 then pl (crX x) 0 + crX x 0 else _) = pl x 3
      rw [if_pos rfl]
      show (0 : Int) + (x 0 + x 2 - x 1) = _
      simp [pl]; omega
    | succ j =>
      have e1 : pl (crX x) (j + 1 + 1) = if (j + 1) % 2 = 0 then pl (crX x) (j + 1) + x (j + 3) else pl (crX x) (j + 1) - x (j + 3) := rfl
      have e2 : pl x (j + 4) = if (j + 3) % 2 = 0 then pl x (j + 3) + x (j + 3) else pl x (j + 3) - x (j + 3) := rfl
      show _ = pl x (j + 4)
      have ih' : pl (crX x) (j + 1) = pl x (j + 3) := ih
      rw [e1, e2, ih']
      by_cases h : (j + 1) % 2 = 0
      · rw [if_pos h, if_pos (by omega)]
      · rw [if_neg h, if_neg (by omega)]
theorem sgN_lt {j n : Nat} (h : j < n - 2) : sgN j < n := by
  cases j with
  | zero => show 0 < n; omega
  | succ k => show k + 3 < n; omega
theorem RingF.crimp {n : Nat} {x : Nat → Int} {f : Nat → Nat} (h : RingF n x f) (h4 : 4 ≤ n) (h1 : x 1 ≤ x 0) : RingF (n - 2) (crX x) (crF f) := by
  refine ⟨by rcases h.size with e | e | e <;> omega, fun k hk => ?_, ?_, fun k hk => h.bin _ (sgN_lt hk)⟩
  · cases k with
    | zero =>
      have := h.pos 2 (by omega)
      show 1 ≤ x 0 + x 2 - x 1
      omega
    | succ k => exact h.pos _ (by omega)
  · rw [pl_crimp]
    obtain ⟨m, hm⟩ : ∃ m, n - 2 = m + 1 := ⟨n - 3, by omega⟩
    rw [hm]
    show pl x (m + 3) = 0
    rw [show m + 3 = n from by omega]
    exact h.shut
theorem pat_crimp {n : Nat} {x : Nat → Int} : patP (n - 2) (pl (crX x)) = crN n (patP n (pl x)) := by
  unfold patP crN
  refine List.map_congr_left fun i hi => ?_
  rw [List.mem_range] at hi
  unfold rk
  refine List.countP_congr fun j hj => ?_
  rw [List.mem_range] at hj
  rw [Nat.blt_eq, decide_eq_true_eq, pl_crimp, pl_crimp]
  have := gd_lt (n := n) (p := pl x) (sgN_lt hj) (sgN_lt hi)
  unfold patP rk at this
  omega
end Go.Proofs.Ytngpeehjjcgmmaa
