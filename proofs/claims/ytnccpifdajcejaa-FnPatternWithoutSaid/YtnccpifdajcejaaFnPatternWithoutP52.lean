/- Counting the folds of patterns: vertices with nothing in common, with one crease in common, renumbered. No program, no condition. A pattern's folds counted by its vertices. No program, no condition. Patterns joined: creases and folds. No program, no condition. -/
import Derived.Test.YtnccpifdajcejaaFnPatternWithoutP45
import Derived.Test.YtnccpifdajcejaaFnPatternWithoutP46
import Derived.Test.YtnccpifdajcejaaFnPatternWithoutP47
import Derived.Test.YtnccpifdajcejaaFnPatternWithoutP42
import Derived.Test.YtnccpifdajcejaaFnPatternWithoutP48
namespace Go.Proofs.Ytnccpifdajcejaa

/-- a letter put at a place -/
def upd (s : Nat → UInt8) (n : Nat) (c : UInt8) : Nat → UInt8 := fun k => if k = n then c else s k
/-- for how many choices of n letters a test holds -/
def cntF : Nat → ((Nat → UInt8) → Bool) → Nat
  | 0, Q => if Q (fun _ => 77) then 1 else 0
  | n + 1, Q => cntF n (fun s => Q (upd s n 77)) + cntF n (fun s => Q (upd s n 86))
/-- a test looks at some places only -/
def Dep (S : Nat → Prop) (f : (Nat → UInt8) → Bool) : Prop := ∀ s t : Nat → UInt8, (∀ k, S k → s k = t k) → f s = f t
theorem Dep.mono {S T : Nat → Prop} {f : (Nat → UInt8) → Bool} (h : Dep S f) (hs : ∀ k, S k → T k) : Dep T f := fun s t e => h s t fun k hk => e k (hs k hk)
theorem upd_same (s : Nat → UInt8) (n : Nat) (c : UInt8) : upd s n c n = c := if_pos rfl
theorem upd_other (s : Nat → UInt8) {n k : Nat} (h : k ≠ n) (c : UInt8) : upd s n c k = s k := if_neg h
theorem upd_comm (s : Nat → UInt8) {n m : Nat} (h : n ≠ m) (c d : UInt8) : upd (upd s n c) m d = upd (upd s m d) n c := by
  funext k
  unfold upd
  by_cases h1 : k = m
  · subst h1; rw [if_pos rfl, if_neg (fun e => h e.symm), if_pos rfl]
  · rw [if_neg h1]
    by_cases h2 : k = n
    · rw [if_pos h2, if_pos h2]
    · rw [if_neg h2, if_neg h2, if_neg h1]
theorem upd_upd (s : Nat → UInt8) (n : Nat) (c d : UInt8) : upd (upd s n c) n d = upd s n d := by
  funext k
  unfold upd
  by_cases h : k = n
  · rw [if_pos h, if_pos h]
  · rw [if_neg h, if_neg h, if_neg h]
theorem Dep.upd {S : Nat → Prop} {f : (Nat → UInt8) → Bool} (h : Dep S f) (n : Nat) (c : UInt8) : Dep (fun k => S k ∧ k ≠ n) (fun s => f (upd s n c)) := by
  intro s t e
  refine h _ _ fun k hk => ?_
  by_cases hn : k = n
  · rw [hn, upd_same, upd_same]
  · rw [upd_other _ hn, upd_other _ hn]; exact e k ⟨hk, hn⟩
theorem Dep.free {S : Nat → Prop} {f : (Nat → UInt8) → Bool} (h : Dep S f) {n : Nat} (hn : ¬ S n) (s : Nat → UInt8) (c : UInt8) : f (Go.Proofs.Ytnccpifdajcejaa.upd s n c) = f s := by
  refine h _ _ fun k hk => ?_
  rw [upd_other]
  intro e; exact hn (e ▸ hk)
theorem Dep.and {S T : Nat → Prop} {f g : (Nat → UInt8) → Bool} (h : Dep S f) (h2 : Dep T g) : Dep (fun k => S k ∨ T k) (fun s => f s && g s) := by
  intro s t e
  show (f s && g s) = (f t && g t)
  rw [h s t fun k hk => e k (Or.inl hk), h2 s t fun k hk => e k (Or.inr hk)]
theorem cntF_congr {n : Nat} {P Q : (Nat → UInt8) → Bool} (h : ∀ s, P s = Q s) : cntF n P = cntF n Q := by
  have : P = Q := funext h
  rw [this]
theorem cntF_free {S : Nat → Prop} {f : (Nat → UInt8) → Bool} (h : Dep S f) {n : Nat} (hn : ¬ S n) : cntF (n + 1) f = 2 * cntF n f := by
  rw [cntF, cntF_congr (Q := f) fun s => h.free hn s 77, cntF_congr (P := fun s => f (upd s n 86)) (Q := f) fun s => h.free hn s 86]
  omega
theorem cntF_ext {f : (Nat → UInt8) → Bool} {m : Nat} (h : Dep (fun k => k < m) f) (d : Nat) : cntF (m + d) f = 2 ^ d * cntF m f := by
  induction d with
  | zero => simp
  | succ d ih =>
    rw [← Nat.add_assoc, cntF_free h (by omega), ih, Nat.pow_succ]
    rw [Nat.mul_comm (2 ^ d) 2, Nat.mul_assoc]
/-- two tests with no place in common -/
theorem cntF_indep {n : Nat} {S T : Nat → Prop} {f g : (Nat → UInt8) → Bool} (hf : Dep S f) (hg : Dep T g) (h : ∀ k, S k → T k → False) : 2 ^ n * cntF n (fun s => f s && g s) = cntF n f * cntF n g := by
  induction n generalizing f g S T with
  | zero =>
    simp only [cntF]
    by_cases h1 : f (fun _ => 77) = true <;> by_cases h2 : g (fun _ => 77) = true <;> simp [h1, h2]
  | succ n ih =>
    have key : ∀ {S T : Nat → Prop} {f g : (Nat → UInt8) → Bool}, Dep S f → Dep T g → (∀ k, S k → T k → False) → ¬ S n → 2 ^ (n + 1) * cntF (n + 1) (fun s => f s && g s) = cntF (n + 1) f * cntF (n + 1) g := by
      intro S T f g hf hg h hn
      rw [cntF_free hf hn]
      have e : ∀ c : UInt8, 2 ^ n * cntF n (fun s => f (upd s n c) && g (upd s n c)) = cntF n f * cntF n (fun s => g (upd s n c)) := by
        intro c
        rw [cntF_congr (Q := fun s => f s && g (upd s n c)) fun s => by rw [hf.free hn]]
        exact ih hf (hg.upd n c) fun k hk ht => h k hk ht.1
      have e1 := e 77
      have e2 := e 86
      have u1 : cntF (n + 1) (fun s => f s && g s) = cntF n (fun s => f (upd s n 77) && g (upd s n 77)) + cntF n (fun s => f (upd s n 86) && g (upd s n 86)) := rfl
      have u2 : cntF (n + 1) g = cntF n (fun s => g (upd s n 77)) + cntF n (fun s => g (upd s n 86)) := rfl
      rw [u1, u2, Nat.pow_succ, Nat.mul_comm (2 ^ n) 2, Nat.mul_assoc, Nat.mul_add, e1, e2, ← Nat.mul_add, Nat.mul_assoc]
    rcases Classical.em (S n) with hn | hn
    · have hm : ¬ T n := fun ht => h n hn ht
      have := key hg hf (fun k hk hs => h k hs hk) hm
      rw [Nat.mul_comm (cntF (n + 1) f), ← this]
      congr 1
      exact cntF_congr fun s => Bool.and_comm _ _
    · exact key hf hg h hn
/-- a place looked at first -/
theorem cntF_split {n c : Nat} (hc : c < n) (f : (Nat → UInt8) → Bool) : 2 * cntF n f = cntF n (fun s => f (upd s c 77)) + cntF n (fun s => f (upd s c 86)) := by
  induction n generalizing f with
  | zero => omega
  | succ n ih =>
    by_cases e : c = n
    · subst e
      simp only [cntF, upd_upd]
      omega
    · have h1 := ih (by omega) (fun s => f (upd s n 77))
      have h2 := ih (by omega) (fun s => f (upd s n 86))
      simp only [cntF]
      rw [Nat.mul_add, h1, h2]
      have t : ∀ a b : UInt8, cntF n (fun s => f (upd (upd s c a) n b)) = cntF n (fun s => f (upd (upd s n b) c a)) := fun a b => cntF_congr fun s => by rw [upd_comm s e]
      rw [t, t, t, t]
      omega
theorem upd_swap (s : Nat → UInt8) (n : Nat) (c : UInt8) : (fun k => swB (upd s n c k)) = upd (fun k => swB (s k)) n (swB c) := by
  funext k
  unfold upd
  split <;> rfl
theorem cntF_swap {n : Nat} {f : (Nat → UInt8) → Bool} (h : Dep (fun k => k < n) f) : cntF n (fun s => f fun k => swB (s k)) = cntF n f := by
  induction n generalizing f with
  | zero =>
    have e : f (fun _ => swB 77) = f (fun _ => 77) := h _ _ fun k hk => by omega
    simp only [cntF, e]
  | succ n ih =>
    have e : ∀ c : UInt8, cntF n (fun s => f fun k => swB (upd s n c k)) = cntF n (fun s => f (upd s n (swB c))) := by
      intro c
      rw [← ih ((h.upd n (swB c)).mono fun k hk => by have := hk.1; have := hk.2; omega)]
      exact cntF_congr fun s => by rw [upd_swap]
    show cntF n (fun s => f fun k => swB (upd s n 77 k)) + cntF n (fun s => f fun k => swB (upd s n 86 k)) = _
    rw [e, e]
    have a : swB 77 = 86 := by decide
    have b : swB 86 = 77 := by decide
    rw [a, b, cntF]
    omega
theorem cntF_half {n c : Nat} (hc : c < n) {f : (Nat → UInt8) → Bool} (h : Dep (fun k => k < n) f) (hs : ∀ s, f (fun k => swB (s k)) = f s) : cntF n (fun s => f (upd s c 77)) = cntF n f ∧ cntF n (fun s => f (upd s c 86)) = cntF n f := by
  have h1 := cntF_split hc f
  have h2 : cntF n (fun s => f (upd s c 86)) = cntF n (fun s => f (upd s c 77)) := by
    rw [← cntF_swap (f := fun s => f (upd s c 77)) ((h.upd c 77).mono fun k hk => hk.1)]
    refine cntF_congr fun s => ?_
    rw [← hs]
    congr 1
    rw [upd_swap]; rfl
  omega
/-- two tests with one place in common -/
theorem cntF_one {n c : Nat} (hc : c < n) {S T : Nat → Prop} {f g : (Nat → UInt8) → Bool} (hf : Dep S f) (hg : Dep T g) (hS : ∀ k, S k → k < n) (hT : ∀ k, T k → k < n) (h : ∀ k, S k → T k → k = c) (sf : ∀ s, f (fun k => swB (s k)) = f s) (sg : ∀ s, g (fun k => swB (s k)) = g s) : 2 ^ n * cntF n (fun s => f s && g s) = cntF n f * cntF n g := by
  have h0 := cntF_split hc (fun s => f s && g s)
  have e : ∀ d : UInt8, 2 ^ n * cntF n (fun s => f (upd s c d) && g (upd s c d)) = cntF n (fun s => f (upd s c d)) * cntF n (fun s => g (upd s c d)) := fun d => cntF_indep (hf.upd c d) (hg.upd c d) fun k hk ht => hk.2 (h k hk.1 ht.1)
  have e1 := e 77
  have e2 := e 86
  have f1 := cntF_half hc (hf.mono hS) sf
  have g1 := cntF_half hc (hg.mono hT) sg
  rw [f1.1, g1.1] at e1
  rw [f1.2, g1.2] at e2
  have h3 : 2 * (2 ^ n * cntF n (fun s => f s && g s)) = 2 * (cntF n f * cntF n g) := by
    rw [Nat.mul_left_comm, h0, Nat.mul_add, e1, e2]; omega
  omega
/-- a test of letters picked at different places -/
theorem cntF_pick {n : Nat} {cs : List Nat} (hn : cs.Nodup) (hb : ∀ c ∈ cs, c < n) (q : List UInt8 → Bool) : cntF n (fun s => q (cs.map s)) * 2 ^ cs.length = 2 ^ n * cntT cs.length q := by
  induction cs generalizing q with
  | nil =>
    have : ∀ m : Nat, cntF m (fun _ => q []) = 2 ^ m * cntT 0 q := by
      intro m
      induction m with
      | zero => simp [cntF, cntT]
      | succ m ih => rw [cntF, ih, Nat.pow_succ]; simp only [Nat.mul_assoc, Nat.mul_comm]; omega
    simpa using this n
  | cons c r ih =>
    rw [List.nodup_cons] at hn
    have h0 := cntF_split (hb c (by simp)) (fun s => q ((c :: r).map s))
    have e : ∀ d : UInt8, cntF n (fun s => q ((c :: r).map (upd s c d))) = cntF n (fun s => (fun l => q (d :: l)) (r.map s)) := by
      intro d
      refine cntF_congr fun s => ?_
      show q _ = q _
      congr 1
      rw [List.map_cons, upd_same]
      congr 1
      refine List.map_congr_left fun k hk => upd_other _ (fun e => hn.1 (by rw [← e]; exact hk)) _
    rw [e, e] at h0
    have i1 := ih hn.2 (fun k hk => hb k (by simp [hk])) (fun l => q (77 :: l))
    have i2 := ih hn.2 (fun k hk => hb k (by simp [hk])) (fun l => q (86 :: l))
    rw [List.length_cons, Nat.pow_succ, cntT, Nat.mul_add, ← i1, ← i2, ← Nat.add_mul, ← h0]
    simp only [Nat.mul_assoc, Nat.mul_comm, Nat.mul_left_comm]
theorem cntF_T (n : Nat) (q : List UInt8 → Bool) : cntF n (fun s => q ((List.range n).map s)) = cntT n q := by
  have h := cntF_pick (n := n) (cs := List.range n) List.nodup_range (fun c hc => List.mem_range.1 hc) q
  rw [List.length_range, Nat.mul_comm] at h
  exact Nat.eq_of_mul_eq_mul_left (Nat.two_pow_pos n) h
end Go.Proofs.Ytnccpifdajcejaa
namespace Go.Proofs.Ytnccpifdajcejaa

def vA (v : Vx) (s : Nat → UInt8) : Bool := vfB v.1 (bts (v.2.map fun c => s c.toNat))
def aA (vs : List Vx) (s : Nat → UInt8) : Bool := vs.all fun v => vA v s
def inV (v : Vx) (k : Nat) : Prop := ∃ c ∈ v.2, c.toNat = k
def inA (vs : List Vx) (k : Nat) : Prop := ∃ v ∈ vs, inV v k
theorem all_congr {α : Type} {vs : List α} {f g : α → Bool} (h : ∀ v ∈ vs, f v = g v) : vs.all f = vs.all g := by
  induction vs with
  | nil => rfl
  | cons v r ih => rw [List.all_cons, List.all_cons, h v (by simp), ih fun u hu => h u (by simp [hu])]
theorem vA_dep (v : Vx) : Dep (inV v) (vA v) := by
  intro s t h
  have e : (v.2.map fun c => s c.toNat) = v.2.map fun c => t c.toNat := List.map_congr_left fun c hc => h c.toNat ⟨c, hc, rfl⟩
  unfold vA
  rw [e]
theorem aA_dep (vs : List Vx) : Dep (inA vs) (aA vs) := by
  intro s t h
  exact all_congr fun v hv => vA_dep v s t fun k hk => h k ⟨v, hv, hk⟩
theorem vA_swap (v : Vx) (s : Nat → UInt8) : vA v (fun k => swB (s k)) = vA v s := by
  have e : (v.2.map fun c => swB (s c.toNat)) = (v.2.map fun c => s c.toNat).map swB := by rw [List.map_map]; rfl
  unfold vA
  rw [e, vf_swap]
theorem aA_swap (vs : List Vx) (s : Nat → UInt8) : aA vs (fun k => swB (s k)) = aA vs s := all_congr fun v _ => vA_swap v s
theorem pm_cnt {vs : List Vx} {n : Nat} (hp : patB vs = true) (hn : ncr vs = (n : Int)) : pmI vs = (cntF n (aA vs) : Int) := by
  obtain ⟨P, hP⟩ : ∃ P : List UInt8 → Bool, P = fun l => vs.all fun v => vfB v.1 (bts (v.2.map fun c => l.getD c.toNat 0)) := ⟨_, rfl⟩
  have e : ∀ m, cntP (rankB vs n) m = cntK n P m := by
    intro m
    induction m with
    | zero => rfl
    | succ m ih => rw [cntP, cntK, ih, hP]; rfl
  unfold pmI
  rw [hp, if_pos rfl, hn, Int.toNat_natCast, e, cntK_T, ← cntF_T]
  congr 1
  refine cntF_congr fun s => ?_
  rw [hP]
  refine all_congr fun v hv => ?_
  unfold vA
  congr 2
  refine List.map_congr_left fun c hc => ?_
  have := (pat_bd3 hp v hv).2.2 c hc
  have hc2 : c.toNat < n := by omega
  rw [List.getD_eq_getElem?_getD, List.getElem?_map, List.getElem?_range hc2]; rfl
/-- a vertex's folds -/
def vmN (v : Vx) : Nat := cntT v.2.length fun l => vfB v.1 (bts l)
theorem vmN_vm {v : Vx} (h : vtxB v = true) : vmI v.1 = (vmN v : Int) := by
  have hb := vtxB_bd h
  unfold vmI vmN
  rw [((acB_iff _).1 hb.1).1, if_pos rfl, cntV_T, hb.2.1]
/-- a vertex whose creases are different and below n -/
def VOk2 (n : Nat) (v : Vx) : Prop := v.2.length = v.1.length ∧ v.2.Nodup ∧ ∀ c ∈ v.2, 0 ≤ c ∧ c < (n : Int)
theorem toNat_nodup {cs : List Int} (hn : cs.Nodup) (h0 : ∀ c ∈ cs, 0 ≤ c) : (cs.map Int.toNat).Nodup := by
  rw [List.nodup_iff_pairwise_ne, List.pairwise_map]
  refine List.Pairwise.imp_of_mem (fun {a b} ha hb h => ?_) (List.nodup_iff_pairwise_ne.1 hn)
  have := h0 a ha
  have := h0 b hb
  omega
theorem vA_cnt {n : Nat} {v : Vx} (h : VOk2 n v) : cntF n (vA v) * 2 ^ v.2.length = 2 ^ n * vmN v := by
  have := cntF_pick (n := n) (toNat_nodup h.2.1 fun c hc => (h.2.2 c hc).1) (fun c hc => by obtain ⟨d, hd, rfl⟩ := List.mem_map.1 hc; have := h.2.2 d hd; omega) (fun l => vfB v.1 (bts l))
  rw [List.length_map] at this
  unfold vmN
  rw [← this]
  congr 1
  refine cntF_congr fun s => ?_
  unfold vA
  rw [List.map_map]; rfl
def prodN : List Vx → Nat
  | [] => 1
  | v :: r => vmN v * prodN r
theorem cnt_prod {n : Nat} {vs : List Vx} (hv : ∀ v ∈ vs, VOk2 n v) (hu : ∀ k : Int, useN vs k ≤ 1) : cntF n (aA vs) * 2 ^ sumA vs = 2 ^ n * prodN vs := by
  induction vs with
  | nil =>
    have := cntF_pick (n := n) (cs := []) List.nodup_nil (fun c hc => by cases hc) (fun _ => true)
    have e : cntT 0 (fun _ => true) = 1 := rfl
    rw [List.length_nil, e] at this
    exact this
  | cons v r ih =>
    have hI := cntF_indep (n := n) (vA_dep v) (aA_dep r) (by
      rintro k ⟨c, hc, rfl⟩ ⟨u, hu1, d, hd, e⟩
      have h1 := (hv v (by simp)).2.2 c hc
      have h2 := (hv u (by simp [hu1])).2.2 d hd
      have hcd : d = c := by omega
      subst hcd
      have h3 := hu d
      rw [useN, if_pos hc] at h3
      have h4 := useN_pos.2 ⟨u, hu1, hd⟩
      omega)
    have hV := vA_cnt (hv v (by simp))
    have hR := ih (fun u hu' => hv u (by simp [hu'])) (fun k => by have := hu k; rw [useN] at this; omega)
    rw [(hv v (by simp)).1] at hV
    have e : aA (v :: r) = fun s => vA v s && aA r s := rfl
    rw [e, sumA, prodN, Nat.pow_add]
    apply Nat.eq_of_mul_eq_mul_left (Nat.two_pow_pos n)
    rw [← Nat.mul_assoc, hI]
    calc cntF n (vA v) * cntF n (aA r) * (2 ^ v.1.length * 2 ^ sumA r) = (cntF n (vA v) * 2 ^ v.1.length) * (cntF n (aA r) * 2 ^ sumA r) := by simp only [Nat.mul_assoc, Nat.mul_comm, Nat.mul_left_comm]
      _ = _ := by rw [hV, hR]; simp only [Nat.mul_assoc, Nat.mul_comm, Nat.mul_left_comm]
def prodZ : List Vx → Int
  | [] => 1
  | v :: r => vmI v.1 * prodZ r
theorem prodZ_snoc (vs : List Vx) (v : Vx) : prodZ (vs ++ [v]) = prodZ vs * vmI v.1 := by
  induction vs with
  | nil => rw [List.nil_append, prodZ, prodZ, prodZ, Int.mul_one, Int.one_mul]
  | cons u r ih => rw [List.cons_append, prodZ, prodZ, ih, Int.mul_assoc]
theorem prodZ_N {vs : List Vx} (h : vs.all vtxB = true) : prodZ vs = (prodN vs : Int) := by
  induction vs with
  | nil => rfl
  | cons v r ih =>
    rw [List.all_cons, Bool.and_eq_true] at h
    rw [prodZ, prodN, ih h.2, vmN_vm h.1]; omega
theorem cntT_le (n : Nat) (P : List UInt8 → Bool) : cntT n P ≤ 2 ^ n := by
  induction n generalizing P with
  | zero => rw [cntT]; split <;> omega
  | succ n ih =>
    rw [cntT, Nat.pow_succ]
    have := ih (fun l => P (77 :: l))
    have := ih (fun l => P (86 :: l))
    omega
theorem vm_bd {v : Vx} (h : vtxB v = true) : 0 ≤ vmI v.1 ∧ vmI v.1 ≤ 1024 := by
  rw [vmN_vm h]
  have h1 := cntT_le v.2.length fun l => vfB v.1 (bts l)
  have h2 : 2 ^ v.2.length ≤ 1024 := pow_le_1024 (vtxB_bd h).2.2.1
  unfold vmN
  omega
theorem useN_le_in {vs : List Vx} {n : Nat} (hb : ∀ v ∈ vs, ∀ c ∈ v.2, 0 ≤ c ∧ c < (n : Int)) (h : ∀ k, k < n → useN vs (k : Int) ≤ 1) (k : Int) : useN vs k ≤ 1 := by
  rcases Nat.eq_zero_or_pos (useN vs k) with h0 | h0
  · omega
  · obtain ⟨v, hv, hk⟩ := useN_pos.1 h0
    have := hb v hv k hk
    obtain ⟨m, rfl⟩ : ∃ m : Nat, k = (m : Int) := ⟨k.toNat, by omega⟩
    exact h m (by omega)
theorem innerTo_nil {vs : List Vx} {n : Nat} (h : innerTo vs n = []) : ∀ k, k < n → useN vs (k : Int) ≠ 2 := by
  intro k hk h2
  have := innerTo_get hk h2
  rw [h] at this
  simp at this
/-- no inner crease: a pattern's folds are its vertices' folds together -/
theorem pm_prod {vs : List Vx} (hp : patB vs = true) (hi : innerL vs = []) : pmI vs = prodZ vs := by
  obtain ⟨n, hn, hn10, _⟩ := pat_num hp
  obtain ⟨_, _, hall, huse, _, _⟩ := patB_parts hp
  have hi2 : innerTo vs n = [] := by unfold innerL at hi; rw [hp, if_pos rfl, hn] at hi; exact hi
  have hs := pat_sum hp hn
  rw [hi2, List.length_nil, Nat.add_zero] at hs
  rw [hn, Int.toNat_natCast] at huse
  have hu := usesOk_iff.1 huse
  have hb := pat_bd3 hp
  rw [hn] at hb
  have h := cnt_prod (n := n) (vs := vs) hb (useN_le_in (fun v hv => (hb v hv).2.2) fun k hk => by have := hu k hk; have := innerTo_nil hi2 k hk; omega)
  rw [hs, Nat.mul_comm] at h
  rw [pm_cnt hp hn, prodZ_N hall, Nat.eq_of_mul_eq_mul_left (Nat.two_pow_pos n) h]
theorem cntF_even {m : Nat} {f : (Nat → UInt8) → Bool} (h : Dep (fun k => k < m + 1) f) (hs : ∀ s, f (fun k => swB (s k)) = f s) : cntF (m + 1) f % 2 = 0 := by
  have h2 : cntF m (fun s => f (upd s m 86)) = cntF m (fun s => f (upd s m 77)) := by
    rw [← cntF_swap (f := fun s => f (upd s m 77)) ((h.upd m 77).mono fun k hk => by have := hk.1; have := hk.2; omega)]
    refine cntF_congr fun s => ?_
    rw [← hs]
    congr 1
    rw [upd_swap]; rfl
  rw [cntF, h2]; omega
theorem pat_two {vs : List Vx} {n : Nat} (hp : patB vs = true) (hn : ncr vs = (n : Int)) : 2 ≤ n := by
  obtain ⟨p1, _, hall, _, _, _⟩ := patB_parts hp
  have hm := List.getElem_mem (l := vs) (n := 0) (by omega)
  have hb := vtxB_bd (List.all_eq_true.1 hall _ hm)
  have hd := pat_bd3 hp _ hm
  have ha := hd.2.2 _ (List.getElem_mem (n := 0) (by omega : 0 < vs[0].2.length))
  have hc := hd.2.2 _ (List.getElem_mem (n := 1) (by omega : 1 < vs[0].2.length))
  have hne := List.pairwise_iff_getElem.1 (List.nodup_iff_pairwise_ne.1 hd.2.1) 0 1 (by omega) (by omega) (by omega)
  omega
theorem aA_dep_n {vs : List Vx} {n : Nat} (hb : ∀ v ∈ vs, ∀ c ∈ v.2, 0 ≤ c ∧ c < (n : Int)) : ∀ k, inA vs k → k < n := by
  rintro k ⟨v, hv, c, hc, rfl⟩
  have := hb v hv c hc
  omega
theorem pm_even {vs : List Vx} (hp : patB vs = true) : pmI vs % 2 = 0 := by
  obtain ⟨n, hn, _, _⟩ := pat_num hp
  have h2 := pat_two hp hn
  obtain ⟨m, rfl⟩ : ∃ m, n = m + 1 := ⟨n - 1, by omega⟩
  have hb := pat_bd3 hp
  rw [hn] at hb
  have := cntF_even ((aA_dep vs).mono (aA_dep_n fun v hv => (hb v hv).2.2)) (aA_swap vs)
  rw [pm_cnt hp hn]; omega
theorem fstP_isSome (p : Nat → Bool) (k g : Nat) : (fstP p k g).isSome = true ↔ ∃ j, k ≤ j ∧ j < k + g ∧ p j = true := by
  induction g generalizing k with
  | zero =>
    rw [fstP]
    constructor
    · intro h; cases h
    · rintro ⟨j, h1, h2, _⟩; omega
  | succ g ih =>
    rw [fstP]
    by_cases hp : p k = true
    · rw [if_pos hp]
      exact ⟨fun _ => ⟨k, Nat.le_refl _, by omega, hp⟩, fun _ => rfl⟩
    · rw [if_neg hp, ih]
      constructor
      · rintro ⟨j, h1, h2, h3⟩; exact ⟨j, by omega, by omega, h3⟩
      · rintro ⟨j, h1, h2, h3⟩
        refine ⟨j, ?_, by omega, h3⟩
        rcases Nat.lt_or_ge k j with h | h
        · omega
        · exact absurd ((by omega : j = k) ▸ h3) hp
theorem cntP_pos (p : Nat → Bool) (m : Nat) : 0 < cntP p m ↔ ∃ j, j < m ∧ p j = true := by
  induction m with
  | zero => simp [cntP]
  | succ m ih =>
    rw [cntP]
    by_cases hp : p m = true
    · rw [if_pos hp]
      exact ⟨fun _ => ⟨m, by omega, hp⟩, fun _ => by omega⟩
    · rw [if_neg hp, Nat.add_zero, ih]
      constructor
      · rintro ⟨j, h1, h3⟩; exact ⟨j, by omega, h3⟩
      · rintro ⟨j, h1, h3⟩
        refine ⟨j, ?_, h3⟩
        rcases Nat.lt_or_ge j m with h | h
        · exact h
        · exact absurd ((by omega : j = m) ▸ h3) hp
theorem pfo_pos {vs : List Vx} (hp : patB vs = true) : (pfo vs).isSome = decide (0 < pmI vs) := by
  have : (pfo vs).isSome = true ↔ 0 < pmI vs := by
    unfold pfo pmI
    rw [hp, if_pos rfl, if_pos rfl, fstP_isSome]
    have := cntP_pos (rankB vs (ncr vs).toNat) (2 ^ (ncr vs).toNat)
    constructor
    · rintro ⟨j, _, h2, h3⟩
      have := this.2 ⟨j, by omega, h3⟩
      omega
    · intro h
      obtain ⟨j, h1, h2⟩ := this.1 (by omega)
      exact ⟨j, by omega, by omega, h2⟩
  rw [Bool.eq_iff_iff, this, decide_eq_true_iff]
end Go.Proofs.Ytnccpifdajcejaa
namespace Go.Proofs.Ytnccpifdajcejaa

theorem vA_ren (f : Nat → Int) (v : Vx) (s : Nat → UInt8) : vA (renV f v) s = vA v (fun k => s (f k).toNat) := by
  unfold vA renV
  simp only [List.map_map]; rfl
theorem aA_ren (f : Nat → Int) (vs : List Vx) (s : Nat → UInt8) : aA (vs.map (renV f)) s = aA vs (fun k => s (f k).toNat) := by
  unfold aA
  rw [List.all_map]
  exact all_congr fun v _ => vA_ren f v s
/-- a renumbered pattern's folds -/
theorem cnt_ren {n N : Nat} {f : Nat → Int} {vs : List Vx} (hb : ∀ v ∈ vs, ∀ c ∈ v.2, 0 ≤ c ∧ c < (n : Int)) (h0 : ∀ k, k < n → 0 ≤ f k ∧ f k < (N : Int)) (hi : ∀ k l, k < n → l < n → f k = f l → k = l) :
    cntF N (aA (vs.map (renV f))) * 2 ^ n = 2 ^ N * cntF n (aA vs) := by
  obtain ⟨q, hq⟩ : ∃ q : List UInt8 → Bool, q = fun l => aA vs (fun k => l.getD k 0) := ⟨_, rfl⟩
  have hd := (aA_dep vs).mono (aA_dep_n hb)
  have hnd : ((List.range n).map fun k => (f k).toNat).Nodup := by
    rw [List.nodup_iff_pairwise_ne, List.pairwise_map]
    refine List.Pairwise.imp_of_mem (fun {a b} ha hb' h => ?_) (List.nodup_iff_pairwise_ne.1 (List.nodup_range (n := n)))
    have ha := List.mem_range.1 ha
    have hb' := List.mem_range.1 hb'
    have h1 := h0 a ha
    have h2 := h0 b hb'
    intro e
    exact h (hi a b ha hb' (by omega))
  have h := cntF_pick (n := N) hnd (fun c hc => by obtain ⟨k, hk, rfl⟩ := List.mem_map.1 hc; have := h0 k (List.mem_range.1 hk); omega) q
  rw [List.length_map, List.length_range, ← cntF_T] at h
  have e1 : cntF N (fun s => q (((List.range n).map fun k => (f k).toNat).map s)) = cntF N (aA (vs.map (renV f))) := by
    refine cntF_congr fun s => ?_
    rw [aA_ren, hq]
    refine hd _ _ fun k hk => ?_
    rw [List.getD_eq_getElem?_getD, List.getElem?_map, List.getElem?_map, List.getElem?_range hk]; rfl
  have e2 : cntF n (fun s => q ((List.range n).map s)) = cntF n (aA vs) := by
    refine cntF_congr fun s => ?_
    rw [hq]
    refine hd _ _ fun k hk => ?_
    rw [List.getD_eq_getElem?_getD, List.getElem?_map, List.getElem?_range hk]; rfl
  rw [e1, e2] at h
  exact h
theorem use_ren {n : Nat} {f : Nat → Int} {vs : List Vx} (hb : ∀ v ∈ vs, ∀ c ∈ v.2, 0 ≤ c ∧ c < (n : Int)) (hi : ∀ k l, k < n → l < n → f k = f l → k = l) {m : Nat} (hm : m < n) : useN (vs.map (renV f)) (f m) = useN vs (m : Int) := by
  induction vs with
  | nil => rfl
  | cons v r ih =>
    rw [List.map_cons, useN, useN, ih fun u hu => hb u (by simp [hu])]
    congr 1
    have : f m ∈ (renV f v).2 ↔ (m : Int) ∈ v.2 := by
      unfold renV
      rw [List.mem_map]
      constructor
      · rintro ⟨c, hc, e⟩
        have h1 := hb v (by simp) c hc
        have := hi c.toNat m (by omega) hm e
        have e2 : c = (m : Int) := by omega
        exact e2 ▸ hc
      · intro hc
        exact ⟨_, hc, by rw [Int.toNat_natCast]⟩
    simp only [this]
theorem use_ren_mem {f : Nat → Int} {vs : List Vx} {z : Int} (h : 0 < useN (vs.map (renV f)) z) : ∃ v ∈ vs, ∃ c ∈ v.2, f c.toNat = z := by
  obtain ⟨u, hu, hz⟩ := useN_pos.1 h
  obtain ⟨v, hv, rfl⟩ := List.mem_map.1 hu
  obtain ⟨c, hc, e⟩ := List.mem_map.1 hz
  exact ⟨v, hv, c, hc, e⟩
theorem numJ_rng {na nb i j : Int} {k : Nat} (hi : 0 ≤ i ∧ i < na) (hj : 0 ≤ j ∧ j < nb) (hk : (k : Int) < nb) : 0 ≤ numJ na i j k ∧ numJ na i j k < na + nb - 1 ∧ (numJ na i j k < na ↔ (k : Int) = j) := by
  unfold numJ
  split
  · omega
  · split <;> omega
theorem numJ_inj {na nb i j : Int} {k l : Nat} (hi : 0 ≤ i ∧ i < na) (hj : 0 ≤ j ∧ j < nb) (hk : (k : Int) < nb) (hl : (l : Int) < nb) (e : numJ na i j k = numJ na i j l) : k = l := by
  unfold numJ at e
  split at e <;> split at e <;> (try split at e) <;> (try split at e) <;> omega
/-- what is known of two patterns that can be joined -/
structure JoinOk (us vs : List Vx) (i j : Int) (na nb : Nat) : Prop where
  pa : patB us = true
  pb : patB vs = true
  ui : useN us i = 1
  uj : useN vs j = 1
  ha : ncr us = (na : Int)
  hb : ncr vs = (nb : Int)
theorem use_bd {vs : List Vx} {n : Nat} (hp : patB vs = true) (hn : ncr vs = (n : Int)) {z : Int} (h : 0 < useN vs z) : 0 ≤ z ∧ z < (n : Int) := by
  obtain ⟨v, hv, hz⟩ := useN_pos.1 h
  have := (pat_bd3 hp v hv).2.2 z hz
  rw [hn] at this
  exact this
theorem use_in {vs : List Vx} {n : Nat} (hp : patB vs = true) (hn : ncr vs = (n : Int)) {k : Nat} (h : k < n) : 1 ≤ useN vs (k : Int) ∧ useN vs (k : Int) ≤ 2 := by
  obtain ⟨_, _, _, huse, _, _⟩ := patB_parts hp
  rw [hn, Int.toNat_natCast] at huse
  exact usesOk_iff.1 huse k h
theorem bd_n {vs : List Vx} {n : Nat} (hp : patB vs = true) (hn : ncr vs = (n : Int)) : ∀ v ∈ vs, ∀ c ∈ v.2, 0 ≤ c ∧ c < (n : Int) := fun v hv c hc => by
  have := (pat_bd3 hp v hv).2.2 c hc
  rw [hn] at this
  exact this
namespace JoinOk
variable {us vs : List Vx} {i j : Int} {na nb : Nat}
theorem i_bd (h : JoinOk us vs i j na nb) : 0 ≤ i ∧ i < (na : Int) := use_bd h.pa h.ha (by have := h.ui; omega)
theorem j_bd (h : JoinOk us vs i j na nb) : 0 ≤ j ∧ j < (nb : Int) := use_bd h.pb h.hb (by have := h.uj; omega)
theorem join_eq (h : JoinOk us vs i j na nb) : joinL us vs i j = us ++ vs.map (renV (numJ (na : Int) i j)) := by unfold joinL; rw [h.ha]
theorem inj (h : JoinOk us vs i j na nb) : ∀ k l, k < nb → l < nb → numJ (na : Int) i j k = numJ (na : Int) i j l → k = l := fun _ _ hk hl e => numJ_inj h.i_bd h.j_bd (by omega) (by omega) e
/-- the number of creases -/
theorem ncr_join (h : JoinOk us vs i j na nb) : ncr (joinL us vs i j) = ((na + nb - 1 : Nat) : Int) := by
  have hnb := pat_two h.pb h.hb
  have hna := pat_two h.pa h.ha
  have hib := h.i_bd
  have hjb := h.j_bd
  rw [h.join_eq]
  apply Int.le_antisymm
  · unfold ncr
    rcases ncGo_is 0 (us ++ vs.map (renV (numJ (na : Int) i j))) with e | ⟨v, hv, x, hx, e⟩
    · rw [e]; omega
    · rw [e]
      rcases List.mem_append.1 hv with hv | hv
      · have := bd_n h.pa h.ha v hv x hx
        omega
      · obtain ⟨u, hu, rfl⟩ := List.mem_map.1 hv
        obtain ⟨c, hc, rfl⟩ := List.mem_map.1 hx
        have h1 := bd_n h.pb h.hb u hu c hc
        have h2 := numJ_rng (k := c.toNat) hib hjb (by omega)
        omega
  · obtain ⟨m, hm, hmj⟩ : ∃ m : Nat, m < nb ∧ numJ (na : Int) i j m = (na : Int) + nb - 2 := by
      by_cases e : j = (nb : Int) - 1
      · refine ⟨nb - 2, by omega, ?_⟩
        unfold numJ
        rw [if_neg (by omega), if_pos (by omega)]; omega
      · refine ⟨nb - 1, by omega, ?_⟩
        unfold numJ
        rw [if_neg (by omega), if_neg (by omega)]; omega
    obtain ⟨v, hv, hc⟩ := useN_pos.1 (by have := use_in h.pb h.hb hm; omega : 0 < useN vs (m : Int))
    have := (ncGo_le 0 (us ++ vs.map (renV (numJ (na : Int) i j)))).2 (renV (numJ (na : Int) i j) v) (by simp; exact Or.inr ⟨_, _, hv, rfl⟩) (numJ (na : Int) i j m) (by
      unfold renV
      exact List.mem_map.2 ⟨_, hc, by rw [Int.toNat_natCast]⟩)
    unfold ncr
    omega
/-- the number of folds -/
theorem pm_join (h : JoinOk us vs i j na nb) (hp : patB (joinL us vs i j) = true) : 2 * pmI (joinL us vs i j) = pmI us * pmI vs := by
  have hnb := pat_two h.pb h.hb
  have hna := pat_two h.pa h.ha
  have hib := h.i_bd
  have hjb := h.j_bd
  have hN := h.ncr_join
  rw [pm_cnt hp hN, pm_cnt h.pa h.ha, pm_cnt h.pb h.hb]
  rw [h.join_eq]
  have hba := bd_n h.pa h.ha
  have hbb := bd_n h.pb h.hb
  have hR : ∀ u ∈ vs.map (renV (numJ (na : Int) i j)), ∀ c ∈ u.2, 0 ≤ c ∧ c < ((na + nb - 1 : Nat) : Int) := by
    intro u hu c hc
    obtain ⟨v, hv, rfl⟩ := List.mem_map.1 hu
    obtain ⟨d, hd, rfl⟩ := List.mem_map.1 hc
    have h1 := hbb v hv d hd
    have h2 := numJ_rng (k := d.toNat) hib hjb (by omega)
    omega
  have h1 := cntF_one (n := na + nb - 1) (c := i.toNat) (by omega) (aA_dep us) (aA_dep (vs.map (renV (numJ (na : Int) i j)))) (fun k hk => by have := aA_dep_n hba k hk; omega) (aA_dep_n hR) (by
    rintro k ⟨v, hv, c, hc, rfl⟩ ⟨u, hu, d, hd, e⟩
    have q1 := hba v hv c hc
    obtain ⟨u, hu', rfl⟩ := List.mem_map.1 hu
    obtain ⟨d, hd', rfl⟩ := List.mem_map.1 hd
    have q2 := hbb u hu' d hd'
    have q3 := numJ_rng (k := d.toNat) hib hjb (by omega)
    have q4 := q3.2.2.1 (by omega)
    rw [numJ_at q4] at e
    exact e.symm) (aA_swap _) (aA_swap _)
  have h2 := cnt_ren (N := na + nb - 1) hbb (fun k hk => by have := numJ_rng (k := k) hib hjb (by omega); omega) h.inj
  have h3 := cntF_ext (f := aA us) (m := na) ((aA_dep us).mono (aA_dep_n hba)) (nb - 1)
  rw [show na + (nb - 1) = na + nb - 1 from by omega] at h3
  rw [h3] at h1
  have e : aA (us ++ vs.map (renV (numJ (na : Int) i j))) = fun s => aA us s && aA (vs.map (renV (numJ (na : Int) i j))) s := by
    funext s; unfold aA; rw [List.all_append]
  rw [e]
  obtain ⟨X, hX⟩ : ∃ X, X = cntF (na + nb - 1) (fun s => aA us s && aA (vs.map (renV (numJ (na : Int) i j))) s) := ⟨_, rfl⟩
  obtain ⟨Y, hY⟩ : ∃ Y, Y = cntF (na + nb - 1) (aA (vs.map (renV (numJ (na : Int) i j)))) := ⟨_, rfl⟩
  obtain ⟨a, hA⟩ : ∃ a, a = cntF na (aA us) := ⟨_, rfl⟩
  obtain ⟨b, hB⟩ : ∃ b, b = cntF nb (aA vs) := ⟨_, rfl⟩
  rw [← hX, ← hY, ← hA] at h1
  rw [← hY, ← hB] at h2
  rw [← hX, ← hA, ← hB]
  have hp2 : 2 ^ nb = 2 ^ (nb - 1) * 2 := by rw [← Nat.pow_succ]; congr 1; omega
  have h5 : 2 ^ (na + nb - 1) * (2 ^ (nb - 1) * (2 * X)) = 2 ^ (na + nb - 1) * (2 ^ (nb - 1) * (a * b)) := by
    calc 2 ^ (na + nb - 1) * (2 ^ (nb - 1) * (2 * X)) = (2 ^ (na + nb - 1) * X) * 2 ^ nb := by rw [hp2]; simp only [Nat.mul_assoc, Nat.mul_comm, Nat.mul_left_comm]
      _ = 2 ^ (nb - 1) * a * (Y * 2 ^ nb) := by rw [h1]; simp only [Nat.mul_assoc]
      _ = _ := by rw [h2]; simp only [Nat.mul_assoc, Nat.mul_comm, Nat.mul_left_comm]
  have h6 := Nat.eq_of_mul_eq_mul_left (Nat.two_pow_pos _) (Nat.eq_of_mul_eq_mul_left (Nat.two_pow_pos _) h5)
  rw [← Int.natCast_mul, ← h6]; omega
end JoinOk
end Go.Proofs.Ytnccpifdajcejaa
