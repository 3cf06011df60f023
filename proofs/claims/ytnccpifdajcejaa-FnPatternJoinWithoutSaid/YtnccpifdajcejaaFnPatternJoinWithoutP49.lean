/- Counting the folds of patterns: vertices with nothing in common, with one crease in common, renumbered. No program, no condition. PatternInner, the program's and the reference's. No condition but sizes. Patterns: what each crease's vertices come to together. No program, no condition. -/
import Derived.Test.YtnccpifdajcejaaFnPatternJoinWithoutP47
import Derived.Test.YtnccpifdajcejaaFnPatternJoinWithoutP48
import Derived.Test.YtnccpifdajcejaaPatK
import Derived.Test.YtnccpifdajcejaaPush
namespace Go.Proofs.Ytnccpifdajcejaa

/-- a letter put at a place -/
def upd (s : Nat → UInt8) (n : Nat) (c : UInt8) : Nat → UInt8 := fun k => if k = n then c else s k
/-- for how many choices of n letters a test holds -/
def cntF : Nat → ((Nat → UInt8) → Bool) → Nat
  | 0, Q => if Q (fun _ => 77) then 1 else 0
  | n + 1, Q => cntF n (fun s => Q (upd s n 77)) + cntF n (fun s => Q (upd s n 86))
/-- a test looks at some places only -/
def Dep (S : Nat → Prop) (f : (Nat → UInt8) → Bool) : Prop := ∀ s t : Nat → UInt8, (∀ k, S k → s k = t k) → f s = f t
theorem Dep.mono {S T : Nat → Prop} {f : (Nat → UInt8) → Bool} (h : Dep S f) (hs : ∀ k, S k → T k) : Dep T f := fun s t e => h s t fun k hk => e k (hs k hk)
theorem upd_same (s : Nat → UInt8) (n : Nat) (c : UInt8) : upd s n c n = c := if_pos rfl
theorem upd_other (s : Nat → UInt8) {n k : Nat} (h : k ≠ n) (c : UInt8) : upd s n c k = s k := if_neg h
theorem upd_comm (s : Nat → UInt8) {n m : Nat} (h : n ≠ m) (c d : UInt8) : upd (upd s n c) m d = upd (upd s m d) n c := by
  funext k
  unfold upd
  by_cases h1 : k = m
  · subst h1; rw [if_pos rfl, if_neg (fun e => h e.symm), if_pos rfl]
  · rw [if_neg h1]
    by_cases h2 : k = n
    · rw [if_pos h2, if_pos h2]
    · rw [if_neg h2, if_neg h2, if_neg h1]
theorem upd_upd (s : Nat → UInt8) (n : Nat) (c d : UInt8) : upd (upd s n c) n d = upd s n d := by
  funext k
  unfold upd
  by_cases h : k = n
  · rw [if_pos h, if_pos h]
  · rw [if_neg h, if_neg h, if_neg h]
theorem Dep.upd {S : Nat → Prop} {f : (Nat → UInt8) → Bool} (h : Dep S f) (n : Nat) (c : UInt8) : Dep (fun k => S k ∧ k ≠ n) (fun s => f (upd s n c)) := by
  intro s t e
  refine h _ _ fun k hk => ?_
  by_cases hn : k = n
  · rw [hn, upd_same, upd_same]
  · rw [upd_other _ hn, upd_other _ hn]; exact e k ⟨hk, hn⟩
theorem Dep.free {S : Nat → Prop} {f : (Nat → UInt8) → Bool} (h : Dep S f) {n : Nat} (hn : ¬ S n) (s : Nat → UInt8) (c : UInt8) : f (Go.Proofs.Ytnccpifdajcejaa.upd s n c) = f s := by
  refine h _ _ fun k hk => ?_
  rw [upd_other]
  intro e; exact hn (e ▸ hk)
theorem Dep.and {S T : Nat → Prop} {f g : (Nat → UInt8) → Bool} (h : Dep S f) (h2 : Dep T g) : Dep (fun k => S k ∨ T k) (fun s => f s && g s) := by
  intro s t e
  show (f s && g s) = (f t && g t)
  rw [h s t fun k hk => e k (Or.inl hk), h2 s t fun k hk => e k (Or.inr hk)]
theorem cntF_congr {n : Nat} {P Q : (Nat → UInt8) → Bool} (h : ∀ s, P s = Q s) : cntF n P = cntF n Q := by
  have : P = Q := funext h
  rw [this]
theorem cntF_free {S : Nat → Prop} {f : (Nat → UInt8) → Bool} (h : Dep S f) {n : Nat} (hn : ¬ S n) : cntF (n + 1) f = 2 * cntF n f := by
  rw [cntF, cntF_congr (Q := f) fun s => h.free hn s 77, cntF_congr (P := fun s => f (upd s n 86)) (Q := f) fun s => h.free hn s 86]
  omega
theorem cntF_ext {f : (Nat → UInt8) → Bool} {m : Nat} (h : Dep (fun k => k < m) f) (d : Nat) : cntF (m + d) f = 2 ^ d * cntF m f := by
  induction d with
  | zero => simp
  | succ d ih =>
    rw [← Nat.add_assoc, cntF_free h (by omega), ih, Nat.pow_succ]
    rw [Nat.mul_comm (2 ^ d) 2, Nat.mul_assoc]
/-- two tests with no place in common -/
theorem cntF_indep {n : Nat} {S T : Nat → Prop} {f g : (Nat → UInt8) → Bool} (hf : Dep S f) (hg : Dep T g) (h : ∀ k, S k → T k → False) : 2 ^ n * cntF n (fun s => f s && g s) = cntF n f * cntF n g := by
  induction n generalizing f g S T with
  | zero =>
    simp only [cntF]
    by_cases h1 : f (fun _ => 77) = true <;> by_cases h2 : g (fun _ => 77) = true <;> simp [h1, h2]
  | succ n ih =>
    have key : ∀ {S T : Nat → Prop} {f g : (Nat → UInt8) → Bool}, Dep S f → Dep T g → (∀ k, S k → T k → False) → ¬ S n → 2 ^ (n + 1) * cntF (n + 1) (fun s => f s && g s) = cntF (n + 1) f * cntF (n + 1) g := by
      intro S T f g hf hg h hn
      rw [cntF_free hf hn]
      have e : ∀ c : UInt8, 2 ^ n * cntF n (fun s => f (upd s n c) && g (upd s n c)) = cntF n f * cntF n (fun s => g (upd s n c)) := by
        intro c
        rw [cntF_congr (Q := fun s => f s && g (upd s n c)) fun s => by rw [hf.free hn]]
        exact ih hf (hg.upd n c) fun k hk ht => h k hk ht.1
      have e1 := e 77
      have e2 := e 86
      have u1 : cntF (n + 1) (fun s => f s && g s) = cntF n (fun s => f (upd s n 77) && g (upd s n 77)) + cntF n (fun s => f (upd s n 86) && g (upd s n 86)) := rfl
      have u2 : cntF (n + 1) g = cntF n (fun s => g (upd s n 77)) + cntF n (fun s => g (upd s n 86)) := rfl
      rw [u1, u2, Nat.pow_succ, Nat.mul_comm (2 ^ n) 2, Nat.mul_assoc, Nat.mul_add, e1, e2, ← Nat.mul_add, Nat.mul_assoc]
    rcases Classical.em (S n) with hn | hn
    · have hm : ¬ T n := fun ht => h n hn ht
      have := key hg hf (fun k hk hs => h k hs hk) hm
      rw [Nat.mul_comm (cntF (n + 1) f), ← this]
      congr 1
      exact cntF_congr fun s => Bool.and_comm _ _
    · exact key hf hg h hn
/-- a place looked at first -/
theorem cntF_split {n c : Nat} (hc : c < n) (f : (Nat → UInt8) → Bool) : 2 * cntF n f = cntF n (fun s => f (upd s c 77)) + cntF n (fun s => f (upd s c 86)) := by
  induction n generalizing f with
  | zero => omega
  | succ n ih =>
    by_cases e : c = n
    · subst e
      simp only [cntF, upd_upd]
      omega
    · have h1 := ih (by omega) (fun s => f (upd s n 77))
      have h2 := ih (by omega) (fun s => f (upd s n 86))
      simp only [cntF]
      rw [Nat.mul_add, h1, h2]
      have t : ∀ a b : UInt8, cntF n (fun s => f (upd (upd s c a) n b)) = cntF n (fun s => f (upd (upd s n b) c a)) := fun a b => cntF_congr fun s => by rw [upd_comm s e]
      rw [t, t, t, t]
      omega
theorem upd_swap (s : Nat → UInt8) (n : Nat) (c : UInt8) : (fun k => swB (upd s n c k)) = upd (fun k => swB (s k)) n (swB c) := by
  funext k
  unfold upd
  split <;> rfl
theorem cntF_swap {n : Nat} {f : (Nat → UInt8) → Bool} (h : Dep (fun k => k < n) f) : cntF n (fun s => f fun k => swB (s k)) = cntF n f := by
  induction n generalizing f with
  | zero =>
    have e : f (fun _ => swB 77) = f (fun _ => 77) := h _ _ fun k hk => by omega
    simp only [cntF, e]
  | succ n ih =>
    have e : ∀ c : UInt8, cntF n (fun s => f fun k => swB (upd s n c k)) = cntF n (fun s => f (upd s n (swB c))) := by
      intro c
      rw [← ih ((h.upd n (swB c)).mono fun k hk => by have := hk.1; have := hk.2; omega)]
      exact cntF_congr fun s => by rw [upd_swap]
    show cntF n (fun s => f fun k => swB (upd s n 77 k)) + cntF n (fun s => f fun k => swB (upd s n 86 k)) = _
    rw [e, e]
    have a : swB 77 = 86 := by decide
    have b : swB 86 = 77 := by decide
    rw [a, b, cntF]
    omega
theorem cntF_half {n c : Nat} (hc : c < n) {f : (Nat → UInt8) → Bool} (h : Dep (fun k => k < n) f) (hs : ∀ s, f (fun k => swB (s k)) = f s) : cntF n (fun s => f (upd s c 77)) = cntF n f ∧ cntF n (fun s => f (upd s c 86)) = cntF n f := by
  have h1 := cntF_split hc f
  have h2 : cntF n (fun s => f (upd s c 86)) = cntF n (fun s => f (upd s c 77)) := by
    rw [← cntF_swap (f := fun s => f (upd s c 77)) ((h.upd c 77).mono fun k hk => hk.1)]
    refine cntF_congr fun s => ?_
    rw [← hs]
    congr 1
    rw [upd_swap]; rfl
  omega
/-- two tests with one place in common -/
theorem cntF_one {n c : Nat} (hc : c < n) {S T : Nat → Prop} {f g : (Nat → UInt8) → Bool} (hf : Dep S f) (hg : Dep T g) (hS : ∀ k, S k → k < n) (hT : ∀ k, T k → k < n) (h : ∀ k, S k → T k → k = c) (sf : ∀ s, f (fun k => swB (s k)) = f s) (sg : ∀ s, g (fun k => swB (s k)) = g s) : 2 ^ n * cntF n (fun s => f s && g s) = cntF n f * cntF n g := by
  have h0 := cntF_split hc (fun s => f s && g s)
  have e : ∀ d : UInt8, 2 ^ n * cntF n (fun s => f (upd s c d) && g (upd s c d)) = cntF n (fun s => f (upd s c d)) * cntF n (fun s => g (upd s c d)) := fun d => cntF_indep (hf.upd c d) (hg.upd c d) fun k hk ht => hk.2 (h k hk.1 ht.1)
  have e1 := e 77
  have e2 := e 86
  have f1 := cntF_half hc (hf.mono hS) sf
  have g1 := cntF_half hc (hg.mono hT) sg
  rw [f1.1, g1.1] at e1
  rw [f1.2, g1.2] at e2
  have h3 : 2 * (2 ^ n * cntF n (fun s => f s && g s)) = 2 * (cntF n f * cntF n g) := by
    rw [Nat.mul_left_comm, h0, Nat.mul_add, e1, e2]; omega
  omega
/-- a test of letters picked at different places -/
theorem cntF_pick {n : Nat} {cs : List Nat} (hn : cs.Nodup) (hb : ∀ c ∈ cs, c < n) (q : List UInt8 → Bool) : cntF n (fun s => q (cs.map s)) * 2 ^ cs.length = 2 ^ n * cntT cs.length q := by
  induction cs generalizing q with
  | nil =>
    have : ∀ m : Nat, cntF m (fun _ => q []) = 2 ^ m * cntT 0 q := by
      intro m
      induction m with
      | zero => simp [cntF, cntT]
      | succ m ih => rw [cntF, ih, Nat.pow_succ]; simp only [Nat.mul_assoc, Nat.mul_comm]; omega
    simpa using this n
  | cons c r ih =>
    rw [List.nodup_cons] at hn
    have h0 := cntF_split (hb c (by simp)) (fun s => q ((c :: r).map s))
    have e : ∀ d : UInt8, cntF n (fun s => q ((c :: r).map (upd s c d))) = cntF n (fun s => (fun l => q (d :: l)) (r.map s)) := by
      intro d
      refine cntF_congr fun s => ?_
      show q _ = q _
      congr 1
      rw [List.map_cons, upd_same]
      congr 1
      refine List.map_congr_left fun k hk => upd_other _ (fun e => hn.1 (by rw [← e]; exact hk)) _
    rw [e, e] at h0
    have i1 := ih hn.2 (fun k hk => hb k (by simp [hk])) (fun l => q (77 :: l))
    have i2 := ih hn.2 (fun k hk => hb k (by simp [hk])) (fun l => q (86 :: l))
    rw [List.length_cons, Nat.pow_succ, cntT, Nat.mul_add, ← i1, ← i2, ← Nat.add_mul, ← h0]
    simp only [Nat.mul_assoc, Nat.mul_comm, Nat.mul_left_comm]
theorem cntF_T (n : Nat) (q : List UInt8 → Bool) : cntF n (fun s => q ((List.range n).map s)) = cntT n q := by
  have h := cntF_pick (n := n) (cs := List.range n) List.nodup_range (fun c hc => List.mem_range.1 hc) q
  rw [List.length_range, Nat.mul_comm] at h
  exact Nat.eq_of_mul_eq_mul_left (Nat.two_pow_pos n) h
end Go.Proofs.Ytnccpifdajcejaa
namespace Go.Proofs.Ytnccpifdajcejaa
open Go.RowKit

/-- of the first k creases those of two vertices -/
def innerTo (vs : List Vx) (k : Nat) : List Int := ((List.range k).filter fun (j : Nat) => decide (useN vs (j : Int) = 2)).map Int.ofNat
theorem innerTo_yes {vs : List Vx} {k : Nat} (h : useN vs (k : Int) = 2) : innerTo vs (k + 1) = innerTo vs k ++ [(k : Int)] := by
  unfold innerTo
  rw [List.range_succ, List.filter_append, List.map_append, List.filter_cons_of_pos (by simpa using h)]; rfl
theorem innerTo_no {vs : List Vx} {k : Nat} (h : ¬ useN vs (k : Int) = 2) : innerTo vs (k + 1) = innerTo vs k := by
  unfold innerTo
  rw [List.range_succ, List.filter_append, List.map_append, List.filter_cons_of_neg (by simpa using h)]; simp
theorem innerTo_len (vs : List Vx) (k : Nat) : (innerTo vs k).length ≤ k := by
  unfold innerTo
  rw [List.length_map]
  have := List.length_filter_le (fun (j : Nat) => decide (useN vs (j : Int) = 2)) (List.range k)
  simpa using this
def innerL (vs : List Vx) : List Int := if patB vs then innerTo vs (ncr vs).toNat else []
theorem innerL_len (vs : List Vx) : (innerL vs).length ≤ 10 := by
  unfold innerL
  cases hp : patB vs with
  | false => simp
  | true =>
    simp only [if_true]
    have h1 := innerTo_len vs (ncr vs).toNat
    have h2 := (patB_parts hp).2.2.2.2.2
    omega

set_option maxHeartbeats 1000000 in
theorem impl_PatternInner (A : Option Addr) (cap : Nat) (vs : List Vx) (w : World) (h : Verts w A vs) (hl : vs.length ≤ maxLen) :
    Calls Try.prog 18 #[.slice A vs.length cap] w fun e w' => ∃ v, e = .returned v ∧ Own w' w.heap.size v (innerL vs) ∧ Below w.heap.size w w' := by
  obtain ⟨w1, hw1⟩ : ∃ w1, w1 = w.alloc (.cells #[] 3) := ⟨_, rfl⟩
  have hb1 : Below w.heap.size w w1 := by rw [hw1]; exact (Below.refl _ _).alloc (Nat.le_refl _) _
  have ho1 : Own w1 w.heap.size (.slice (some ⟨w.heap.size, 0, none⟩) 0 0) [] := by rw [hw1]; exact own_empty w (Nat.le_refl _)
  have hs1 : w1.heap.size = w.heap.size + 1 := by rw [hw1]; simp
  have HW := Lib.hid hw1
  have HO1 := Lib.hid ho1
  have HS1 := Lib.hid hs1
  clear hw1 ho1 hs1
  go_enter Try.func18, Try.ntmps18
  go_wp2_with fail
  rw [← HW.out]
  refine (impl_creaseUses A cap vs w1 (h.below hb1) hl).mono ?_
  rintro e w2 ⟨U, rfl, hyes, hno, hb2⟩
  have b2 : Below w.heap.size w w2 := hb1.trans (hb2.mono hb1.size)
  have ho2 : Own w2 w.heap.size (.slice (some ⟨w.heap.size, 0, none⟩) 0 0) [] := HO1.out.kept (row := none) ⟨hb2.os, hb2.tape, hb2.output, hb2.size, fun q hq _ => hb2.block q hq⟩ (Or.inr (by simp [Value.ownBlock]))
  have hz12 := hb2.size
  cases hp : patB vs with
  | false =>
    have hv := hno hp
    subst hv
    have hin : innerL vs = [] := by unfold innerL; rw [hp]; rfl
    have HI := Lib.hid hin
    have HO := Lib.hid ho2
    have HB := Lib.hid b2
    clear hp hyes hno hin ho2 b2 hb1 hb2
    go_wp2_with fail
    go_loop [3, 6, 7, 16] (fun s3 s6 s7 s16 => s3 = .slice (some ⟨w.heap.size, 0, none⟩) 0 0 ∧ s16 = .int .i64 0) (fun _ _ _ _ => 0)
    case atStart => exact ⟨rfl, rfl⟩
    case round =>
      obtain ⟨rfl, rfl⟩ := hrel
      go_wp2_with fail
      go_ret
      exact ⟨_, rfl, by rw [HI.out]; exact HO.out, HB.out⟩
  | true =>
    have hU := hyes hp
    obtain ⟨_, _, _, _, n0, n10⟩ := patB_parts hp
    obtain ⟨n, hn⟩ : ∃ n, n = (ncr vs).toNat := ⟨_, rfl⟩
    have hin : innerL vs = innerTo vs n := by unfold innerL; rw [hp, if_pos rfl, hn]
    rw [← hn] at hU
    have hn10 : n ≤ 10 := by omega
    obtain ⟨D, cd, rfl, _, hcd, hcm⟩ := hU.form
    have hul := usesL_len vs n
    rw [hul] at hcd
    have hUb : ∀ g, (Value.slice D (usesL vs n).length cd).ownBlock = some g → w1.heap.size ≤ g ∧ g < w2.heap.size := fun g hg => hU.lt g hg
    have hap : Apart (.slice (some ⟨w.heap.size, 0, none⟩) 0 0) w1.heap.size w2.heap.size := by
      intro g hg
      left
      have : w.heap.size = g := by simpa [Value.ownBlock] using hg
      have := HS1.out
      omega
    have HI := Lib.hid hin
    have HO := Lib.hid ho2
    have HB := Lib.hid b2
    have HU := Lib.hid hU
    have HUb := Lib.hid hUb
    have HUL := Lib.hid hul
    have HAp := Lib.hid hap
    have hw2 : w.heap.size ≤ w2.heap.size := b2.size
    rw [hul]
    clear hp hyes hno hin ho2 b2 hb1 hb2 hn n0 n10 hU hUb hul hap
    go_wp2_with fail
    go_loopg [3, 6, 7, 16] (n + 1) (fun gg s3 s6 s7 s16 wr => ∃ (j : Nat), j ≤ n ∧ s16 = .int .i64 j ∧ n - j < gg ∧ Own wr w.heap.size s3 (innerTo vs j) ∧ Apart s3 w1.heap.size w2.heap.size ∧ Hid (Own wr w1.heap.size (.slice D (usesL vs n).length cd) (usesL vs n)) ∧ Hid (Below w.heap.size w wr) ∧ w2.heap.size ≤ wr.heap.size)
    case atStart => exact ⟨0, Nat.zero_le _, rfl, by omega, HO.out, HAp.out, HU, HB, Nat.le_refl _⟩
    case round =>
      clear HO HU HB HAp
      obtain ⟨j, hj, rfl, hg, hown, hap, HU, HB, hz⟩ := hrel
      cases gk with
      | zero => omega
      | succ gg =>
      by_cases hlt : j < n
      · have hI := Ints.of_own HU.out
        obtain ⟨b, off, y, rfl, hb, HX, hc, _⟩ := hI.at_ (k := j) (by rw [HUL.out]; exact hlt)
        have hy : y = (useN vs (j : Int) : Int) := by
          have h3 := List.drop_eq_getElem_cons (l := usesL vs n) (i := j) (by rw [HUL.out]; exact hlt)
          rw [HX.out] at h3
          injection h3 with h3
          rw [h3]
          have := usesL_get vs hlt
          rw [List.getElem?_eq_getElem (by rw [HUL.out]; exact hlt)] at this
          exact Option.some.inj this
        have hyu : y = 2 ↔ useN vs (j : Int) = 2 := by rw [hy]; omega
        have j1 : (j : Int) < (n : Int) := by omega
        have j0 : (0 : Int) ≤ (j : Int) := by omega
        have hlen := innerTo_len vs j
        clear hI hy
        by_cases q : y = 2
        · have d : (y == 2) = true := by rw [beq_iff_eq]; exact q
          have HY := Lib.hid (innerTo_yes (hyu.1 q))
          have hz1 := HB.out.size
          clear q hyu
          go_wp2_with (at_builtin; go_loud (refine wpList_push2 (W := wr) rfl _ _ rfl w.heap.size w1.heap.size w2.heap.size _ _ (j : Int) (by rfl) (by rfl) hown hz1 hap hz (by omega) ?_))
          intro v' w4 hown4 hgr4 hb4 hap4
          rw [← HY.out] at hown4
          have hU4 : Own w4 w1.heap.size (.slice (some ⟨b, off, none⟩) (usesL vs n).length cd) (usesL vs n) := HU.out.kept hgr4 (by
            cases hu : (Value.slice (some ⟨b, off, none⟩) (usesL vs n).length cd).ownBlock with
            | none => exact Or.inl rfl
            | some g =>
              right
              intro e
              have h5 := HUb.out g hu
              rcases hap g e.symm with h6 | h6 <;> omega)
          have HU4 := Lib.hid hU4
          have HB4 := Lib.hid (HB.out.trans hb4)
          have hz4 : w2.heap.size ≤ w4.heap.size := Nat.le_trans hz hb4.size
          clear hU4 hgr4 hb4 hown hap HU HB hlen
          go_wp2_with fail
          go_roundg gg
          case measure => omega
          case rel => exact ⟨j + 1, by omega, by go_num, by omega, hown4, hap4, HU4, HB4, hz4⟩
        · have d : (y == 2) = false := by rw [beq_eq_false_iff_ne]; exact q
          have HY := Lib.hid (innerTo_no (fun e => q (hyu.2 e)))
          clear q hyu
          go_wp2_with fail
          go_roundg gg
          case measure => omega
          case rel => exact ⟨j + 1, by omega, by go_num, by omega, by rw [HY.out]; exact hown, hap, HU, HB, hz⟩
      · obtain rfl : j = n := by omega
        go_wp2_with fail
        go_ret
        exact ⟨_, rfl, by rw [HI.out]; exact hown, HB.out⟩
set_option maxHeartbeats 1000000 in
theorem spec_PatternInner (A : Option Addr) (cap : Nat) (vs : List Vx) (w : World) (h : Verts w A vs) (hl : vs.length ≤ maxLen) :
    Calls Try.prog 26 #[.slice A vs.length cap] w fun e w' => ∃ v, e = .returned v ∧ Own w' w.heap.size v (innerL vs) ∧ Below w.heap.size w w' := by
  obtain ⟨c, hc⟩ : ∃ c, c = pcI vs := ⟨_, rfl⟩
  have hcb : -1 ≤ c ∧ c ≤ 10 := by
    rw [hc]; unfold pcI
    cases hp : patB vs with
    | false => simp
    | true =>
      have := patB_parts hp
      simp only [if_true]
      omega
  have hin : innerL vs = innerTo vs c.toNat := by
    rw [hc]; unfold innerL pcI
    cases patB vs with
    | false => rfl
    | true => rfl
  have h3 : 0 < c → vs.length ≤ 3 := by
    intro h0
    rw [hc] at h0; unfold pcI at h0
    cases hp : patB vs with
    | false => rw [hp] at h0; simp at h0
    | true => exact (patB_parts hp).2.1
  have HC := Lib.hid hc
  have HI := Lib.hid hin
  have H3 := Lib.hid h3
  clear hc hin h3
  go_enter Try.func26, Try.ntmps26
  go_wp2_with fail
  go_loopg [3, 4] (12) (fun gg s3 s4 wr => ∃ (j : Nat), (j : Int) ≤ c + 1 ∧ j ≤ 10 ∧ (j ≤ c.toNat) ∧ s4 = .int .i64 j ∧ 10 - j < gg ∧ Own wr w.heap.size s3 (innerTo vs j) ∧ Hid (Below w.heap.size w wr))
  case atStart => exact ⟨0, by omega, by omega, by omega, rfl, by omega, own_empty w (Nat.le_refl _), (Below.refl _ _).alloc (Nat.le_refl _) _⟩
  case round =>
    obtain ⟨j, hjc, hj10, hjn, rfl, hg, hown, HB⟩ := hrel
    cases gk with
    | zero => omega
    | succ gg =>
    have hz1 := HB.out.size
    have hlen := innerTo_len vs j
    go_wp2_with fail
    refine (spec_PatternCreases A cap vs wr (h.below HB.out) hl).mono ?_
    rintro e w3 ⟨rfl, hb3⟩
    rw [← HC.out]
    have hown3 : ∀ v, Own wr w.heap.size v (innerTo vs j) → Own w3 w.heap.size v (innerTo vs j) := fun v ho => ho.kept (row := none) ⟨hb3.os, hb3.tape, hb3.output, hb3.size, fun q hq _ => hb3.block q hq⟩ (by
      cases hu : v.ownBlock with
      | none => exact Or.inl rfl
      | some g => exact Or.inr (fun e => by cases e))
    have ho3 := hown3 _ hown
    have HB3 := Lib.hid (HB.out.trans (hb3.mono hz1))
    clear hown3 hown hb3
    by_cases hlt : (j : Int) < c
    · have dl : decide ((j : Int) < c) = true := by simp; omega
      have hz3 := HB3.out.size
      obtain ⟨u, hu⟩ : ∃ u, u = useN vs (j : Int) := ⟨_, rfl⟩
      have HU := Lib.hid hu
      clear hu
      have l3 := H3.out (by omega)
      go_wp2_with fail
      refine (spec_l6pUses A cap vs (j : Int) w3 (h.below HB3.out) (by omega)).mono ?_
      rintro e w' ⟨rfl, rfl⟩
      rw [← HU.out]
      by_cases q : u = 2
      · have d : ((u : Int) == 2) = true := by rw [beq_iff_eq]; omega
        have HY := Lib.hid (innerTo_yes (vs := vs) (k := j) (by rw [← HU.out]; exact q))
        clear q
        go_wp2_with (at_builtin; go_loud (refine wpList_push (W := w3) rfl _ _ rfl w.heap.size _ _ (j : Int) (by rfl) (by rfl) ho3 hz3 (by omega) ?_))
        intro v' w4 hown4 hgr4 hb4
        rw [← HY.out] at hown4
        have HB4 := Lib.hid (HB3.out.trans hb4)
        clear hgr4 hb4 ho3 hlen
        go_wp2_with fail
        go_roundg gg
        case measure => omega
        case rel => exact ⟨j + 1, by omega, by omega, by omega, by go_num, by omega, hown4, HB4⟩
      · have d : ((u : Int) == 2) = false := by rw [beq_eq_false_iff_ne]; omega
        have HY := Lib.hid (innerTo_no (vs := vs) (k := j) (by rw [← HU.out]; exact q))
        clear q
        go_wp2_with fail
        go_roundg gg
        case measure => omega
        case rel => exact ⟨j + 1, by omega, by omega, by omega, by go_num, by omega, by rw [HY.out]; exact ho3, HB3⟩
    · have dl : decide ((j : Int) < c) = false := by simp; omega
      have hjc2 : j = c.toNat := by omega
      have HJ := Lib.hid hjc2
      clear hjc2
      go_wp2_with fail
      go_ret
      exact ⟨_, rfl, by rw [HI.out, ← HJ.out]; exact ho3, HB3.out⟩
end Go.Proofs.Ytnccpifdajcejaa
namespace Go.Proofs.Ytnccpifdajcejaa

/-- how many times a number stands in the creases of vertices -/
def cntM : List Vx → Int → Nat
  | [], _ => 0
  | v :: r, z => v.2.count z + cntM r z
theorem cntM_use {vs : List Vx} (h : vs.all vtxB = true) (z : Int) : cntM vs z = useN vs z := by
  induction vs with
  | nil => rfl
  | cons v r ih =>
    rw [List.all_cons, Bool.and_eq_true] at h
    rw [cntM, useN, ih h.2]
    congr 1
    have hn : v.2.Nodup := by
      have := h.1
      unfold vtxB at this
      simp only [Bool.and_eq_true] at this
      exact ((crB_iff _).1 this.2).2
    by_cases hm : z ∈ v.2
    · rw [if_pos hm, hn.count, if_pos hm]
    · rw [if_neg hm, List.count_eq_zero.2 hm]
/-- how many angles vertices have -/
def sumA : List Vx → Nat
  | [] => 0
  | v :: r => v.1.length + sumA r
theorem sumA_snoc (vs : List Vx) (v : Vx) : sumA (vs ++ [v]) = sumA vs + v.1.length := by
  induction vs with
  | nil => simp [sumA]
  | cons u r ih => rw [List.cons_append, sumA, sumA, ih]; omega
def sumU (vs : List Vx) : Nat → Nat
  | 0 => 0
  | k + 1 => sumU vs k + useN vs (k : Int)
def cntIn (cs : List Int) : Nat → Nat
  | 0 => 0
  | k + 1 => cntIn cs k + (if (k : Int) ∈ cs then 1 else 0)
theorem cntIn_cons {c : Nat} {r : List Int} (hc : (c : Int) ∉ r) (n : Nat) : cntIn ((c : Int) :: r) n = cntIn r n + (if c < n then 1 else 0) := by
  induction n with
  | zero => simp [cntIn]
  | succ n ih =>
    rw [cntIn, cntIn, ih]
    by_cases e : n = c
    · subst e
      simp [hc]
    · have : ((n : Int) ∈ (c : Int) :: r) ↔ (n : Int) ∈ r := by
        rw [List.mem_cons]
        exact ⟨fun h => h.resolve_left (by omega), Or.inr⟩
      simp only [this]
      have e2 : (if c < n + 1 then 1 else 0) = (if c < n then 1 else (0 : Nat)) := by split <;> split <;> omega
      rw [e2]; omega
theorem cntIn_all {cs : List Int} {n : Nat} (hn : cs.Nodup) (hb : ∀ c ∈ cs, 0 ≤ c ∧ c < (n : Int)) : cntIn cs n = cs.length := by
  induction cs with
  | nil => induction n with
    | zero => rfl
    | succ n ih => rw [cntIn, ih (fun c hc => by cases hc)]; simp
  | cons c r ih =>
    obtain ⟨m, rfl⟩ : ∃ m : Nat, c = (m : Int) := ⟨c.toNat, by have := hb c (by simp); omega⟩
    rw [List.nodup_cons] at hn
    rw [cntIn_cons hn.1, ih hn.2 (fun c hc => hb c (by simp [hc])), if_pos (by have := hb (m : Int) (by simp); omega), List.length_cons]
theorem sumU_cons (v : Vx) (r : List Vx) (n : Nat) : sumU (v :: r) n = cntIn v.2 n + sumU r n := by
  induction n with
  | zero => rfl
  | succ n ih => rw [sumU, sumU, cntIn, ih, useN]; omega
theorem sumU_all {vs : List Vx} {n : Nat} (h : vs.all vtxB = true) (hb : ∀ v ∈ vs, ∀ c ∈ v.2, 0 ≤ c ∧ c < (n : Int)) : sumU vs n = sumA vs := by
  induction vs with
  | nil => induction n with
    | zero => rfl
    | succ n ih => rw [sumU, ih (fun v hv => by cases hv)]; rfl
  | cons v r ih =>
    rw [List.all_cons, Bool.and_eq_true] at h
    have h1 := h.1
    unfold vtxB at h1
    simp only [Bool.and_eq_true, decide_eq_true_eq] at h1
    rw [sumU_cons, sumA, ih h.2 (fun v hv => hb v (by simp [hv])), cntIn_all ((crB_iff _).1 h1.2).2 (hb v (by simp)), h1.1.2]
theorem sumU_inner {vs : List Vx} {n : Nat} (h : ∀ k, k < n → 1 ≤ useN vs (k : Int) ∧ useN vs (k : Int) ≤ 2) : sumU vs n = n + (innerTo vs n).length := by
  induction n with
  | zero => rfl
  | succ n ih =>
    rw [sumU, ih (fun k hk => h k (by omega))]
    have := h n (by omega)
    by_cases h2 : useN vs (n : Int) = 2
    · rw [innerTo_yes h2, List.length_append, h2]; simp; omega
    · rw [innerTo_no h2]; omega
theorem innerTo_get {vs : List Vx} {k n : Nat} (hk : k < n) (h2 : useN vs (k : Int) = 2) : (innerTo vs n)[(innerTo vs k).length]? = some (k : Int) := by
  induction n with
  | zero => omega
  | succ n ih =>
    by_cases e : k = n
    · subst e
      rw [innerTo_yes h2, List.getElem?_append_right (Nat.le_refl _), Nat.sub_self]; rfl
    · have := ih (by omega)
      have hlt := (List.getElem?_eq_some_iff.1 this).1
      by_cases h3 : useN vs (n : Int) = 2
      · rw [innerTo_yes h3, List.getElem?_append_left hlt]; exact this
      · rw [innerTo_no h3]; exact this
/-- a pattern's angles are as many as its creases and its inner ones together -/
theorem pat_sum {vs : List Vx} {n : Nat} (hp : patB vs = true) (hn : ncr vs = (n : Int)) : sumA vs = n + (innerTo vs n).length := by
  obtain ⟨_, _, hall, huse, _, _⟩ := patB_parts hp
  rw [hn, Int.toNat_natCast] at huse
  rw [← sumU_inner (fun k hk => usesOk_iff.1 huse k hk), sumU_all hall]
  intro v hv c hc
  have h1 := vtxB_bd (List.all_eq_true.1 hall v hv)
  have h2 := (ncGo_le 0 vs).2 v hv c hc
  unfold ncr at hn
  exact ⟨(h1.2.2.2.2 c hc).1, by omega⟩
theorem pat_num {vs : List Vx} (hp : patB vs = true) : ∃ n : Nat, ncr vs = (n : Int) ∧ n ≤ 10 ∧ pcI vs = (n : Int) := by
  obtain ⟨_, _, _, _, h0, h10⟩ := patB_parts hp
  exact ⟨(ncr vs).toNat, by omega, by omega, by unfold pcI; rw [hp, if_pos rfl]; omega⟩
end Go.Proofs.Ytnccpifdajcejaa
