/- What turning, reading backwards and exchanging folds do to a vertex that folds; its balance; what a crimp does to sums. No condition but sizes. A pattern's folds: all exchanged, one exchanged; vertices that can be crimped. No program, no condition. PatternCrimp, the program's and the reference's. No condition but sizes. A vertex that folds can be crimped, if it has more than two angles. No program, no condition. The law on crimps of patterns: the walk of the law itself. No condition but sizes. -/
import Derived.Test.YtnccpifdajcejaaFnPatternCrimpP15
import Derived.Test.YtnccpifdajcejaaFnPatternCrimpP12
import Derived.Test.YtnccpifdajcejaaFnPatternCrimpP14
import Derived.Test.YtnccpifdajcejaaFnPatternCrimpP11
namespace Go.Proofs.Ytnccpifdajcejaa

/-- the sum with alternating signs -/
def altS : List Int → Int
  | [] => 0
  | x :: r => x - altS r
theorem balGo_alt (k : Nat) (s : Int) (xs : List Int) : balGo k s xs = s + (if k % 2 = 0 then altS xs else -altS xs) := by
  induction xs generalizing k s with
  | nil => simp [balGo, altS]
  | cons x r ih =>
    rw [balGo, ih, altS]
    by_cases e : k % 2 = 0
    · rw [if_pos e, if_neg (by omega), if_pos e]; omega
    · rw [if_neg e, if_pos (by omega), if_neg e]; omega
theorem balB_alt (xs : List Int) : balB xs = decide (altS xs = 0) := by
  unfold balB
  rw [balGo_alt]; simp
theorem altS_app (u v : List Int) : altS (u ++ v) = altS u + (if u.length % 2 = 0 then altS v else -altS v) := by
  induction u with
  | nil => simp [altS]
  | cons x r ih =>
    rw [List.cons_append, altS, altS, ih, List.length_cons]
    by_cases e : r.length % 2 = 0
    · rw [if_pos e, if_neg (by omega)]; omega
    · rw [if_neg e, if_pos (by omega)]; omega
theorem altS_turn {u v : List Int} (h : (u ++ v).length % 2 = 0) : altS (v ++ u) = 0 ↔ altS (u ++ v) = 0 := by
  rw [altS_app, altS_app]
  rw [List.length_append] at h
  by_cases e : u.length % 2 = 0
  · rw [if_pos e, if_pos (by omega)]; omega
  · rw [if_neg e, if_neg (by omega)]; omega
theorem altS_rev (xs : List Int) : altS xs.reverse = if xs.length % 2 = 0 then -altS xs else altS xs := by
  induction xs with
  | nil => simp [altS]
  | cons x r ih =>
    rw [List.reverse_cons, altS_app, ih, List.length_reverse, List.length_cons]
    have e1 : altS [x] = x := by simp [altS]
    rw [e1]; simp only [altS]
    by_cases e : r.length % 2 = 0
    · rw [if_pos e, if_pos e, if_neg (by omega)]; omega
    · rw [if_neg e, if_neg e, if_pos (by omega)]; omega
theorem avB_iff (xs : List Int) : avB xs = true ↔ xs.length % 2 = 0 ∧ 2 ≤ xs.length ∧ xs.length ≤ 10 ∧ (∀ x ∈ xs, 1 ≤ x ∧ x ≤ 360) ∧ xs.sum = 360 := by
  constructor
  · exact avB_parts
  · rintro ⟨a, b, c, d, e⟩
    unfold avB
    simp only [Bool.and_eq_true, decide_eq_true_eq, List.all_eq_true]
    exact ⟨⟨⟨⟨a, b⟩, c⟩, d⟩, e⟩
theorem acB_iff (xs : List Int) : acB xs = true ↔ avB xs = true ∧ altS xs = 0 := by
  unfold acB
  rw [Bool.and_eq_true, balB_alt, decide_eq_true_eq]
theorem sum_app (u v : List Int) : (u ++ v).sum = u.sum + v.sum := by
  induction u with
  | nil => simp
  | cons x r ih => rw [List.cons_append, List.sum_cons, ih, List.sum_cons]; omega
theorem sum_rev (u : List Int) : u.reverse.sum = u.sum := by
  induction u with
  | nil => rfl
  | cons x r ih => rw [List.reverse_cons, sum_app, ih, List.sum_cons]; simp; omega
theorem avB_turn {u v : List Int} (h : avB (u ++ v) = true) : avB (v ++ u) = true := by
  rw [avB_iff] at h ⊢
  obtain ⟨a, b, c, d, e⟩ := h
  rw [List.length_append] at a b c
  rw [sum_app] at e
  refine ⟨by rw [List.length_append]; omega, by rw [List.length_append]; omega, by rw [List.length_append]; omega, fun x hx => d x ?_, by rw [sum_app]; omega⟩
  rw [List.mem_append] at hx ⊢
  exact hx.symm
theorem acB_turn {u v : List Int} (h : acB (u ++ v) = true) : acB (v ++ u) = true := by
  rw [acB_iff] at h ⊢
  exact ⟨avB_turn h.1, (altS_turn (avB_parts h.1).1).2 h.2⟩
theorem avB_rev {xs : List Int} (h : avB xs = true) : avB xs.reverse = true := by
  rw [avB_iff] at h ⊢
  obtain ⟨a, b, c, d, e⟩ := h
  exact ⟨by simpa using a, by simpa using b, by simpa using c, fun x hx => d x (by simpa using hx), by rw [sum_rev]; exact e⟩
theorem acB_rev {xs : List Int} (h : acB xs = true) : acB xs.reverse = true := by
  rw [acB_iff] at h ⊢
  refine ⟨avB_rev h.1, ?_⟩
  rw [altS_rev, if_pos (avB_parts h.1).1]; omega
theorem fvB_iff (cs : List UInt8) (n : Int) : fvB cs n = true ↔ (cs.length : Int) = n ∧ ∀ c ∈ cs, mvB c = true := by
  unfold fvB
  simp only [Bool.and_eq_true, decide_eq_true_eq, List.all_eq_true]

/-- a text out of its bytes -/
abbrev bts (cs : List UInt8) : ByteArray := ⟨cs.toArray⟩
theorem bts_list (cs : List UInt8) : (bts cs).data.toList = cs := rfl
theorem bts_of (s : ByteArray) : bts s.data.toList = s := by cases s; rfl

theorem vf_turn' {u v : List Int} {u' v' : List UInt8} (hl : u.length = u'.length) (h : vfB (u ++ v) (bts (u' ++ v')) = true) : vfB (v ++ u) (bts (v' ++ u')) = true := by
  rw [vfB_down] at h ⊢
  obtain ⟨h1, h2, h3⟩ := h
  rw [bts_list] at h2 h3 ⊢
  rw [fvB_iff] at h2 ⊢
  have hl' : v.length = v'.length := by
    have := h2.1
    rw [List.length_append, List.length_append] at this; omega
  refine ⟨acB_turn h1, ⟨by rw [List.length_append, List.length_append]; omega, fun c hc => h2.2 c ?_⟩, ?_⟩
  · rw [List.mem_append] at hc ⊢; exact hc.symm
  · rw [wl_app hl] at h3
    rw [wl_app hl']
    exact h3.rot (rot_mk _ _)
theorem vf_turn {u v : List Int} {u' v' : List UInt8} (hl : u.length = u'.length) (hl' : v.length = v'.length) : vfB (v ++ u) (bts (v' ++ u')) = vfB (u ++ v) (bts (u' ++ v')) := by
  rw [Bool.eq_iff_iff]
  exact ⟨vf_turn' hl', vf_turn' hl⟩

/-- read backwards, the first letter first -/
def mirr : List UInt8 → List UInt8
  | [] => []
  | c :: r => c :: r.reverse
theorem wl_rev {xs : List Int} {cs : List UInt8} (h : xs.length = cs.length) : Rot (wl xs cs).reverse (wl xs.reverse (mirr cs)) := by
  cases cs with
  | nil =>
    have : xs = [] := List.eq_nil_of_length_eq_zero (by simpa using h)
    subst this
    exact Rot.refl _
  | cons c r =>
    -- the word backwards, its last letter taken to the front
    have key : ∀ (ys : List Int) (ds : List UInt8) (e : UInt8), ys.length = ds.length + 1 → ∃ t, (wl ys (e :: ds)).reverse = t ++ [Ltr.F e.toNat] ∧ wl ys.reverse (e :: ds.reverse) = [Ltr.F e.toNat] ++ t := by
      intro ys
      induction ys with
      | nil => intro ds e h; simp at h
      | cons y ys ih =>
        intro ds e h
        cases ds with
        | nil =>
          have : ys = [] := List.eq_nil_of_length_eq_zero (by simpa using h)
          subst this
          exact ⟨[Ltr.X y], by simp [wl], by simp [wl]⟩
        | cons d ds =>
          obtain ⟨t, e1, e2⟩ := ih ds d (by simpa using h)
          refine ⟨t ++ [Ltr.F d.toNat, Ltr.X y], ?_, ?_⟩
          · rw [wl, List.reverse_cons, List.reverse_cons, e1]; simp
          · rw [List.reverse_cons, List.reverse_cons]
            have hl : ys.reverse.length = (e :: ds.reverse).length := by simpa using h
            rw [show e :: (ds.reverse ++ [d]) = (e :: ds.reverse) ++ [d] from rfl, wl_app hl]
            have e3 : wl ys.reverse (e :: ds.reverse) = [Ltr.F e.toNat] ++ t := by
              cases hys : ys.reverse with
              | nil => rw [hys] at hl; simp at hl
              | cons z zs =>
                rw [hys] at e2
                simp only [wl, List.cons_append, List.nil_append, List.cons.injEq] at e2 ⊢
                exact ⟨trivial, e2.2⟩
            rw [e3]; simp [wl]
    obtain ⟨t, e1, e2⟩ := key xs r c (by simpa using h)
    rw [e1, mirr, e2]
    exact rot_mk _ _
theorem vf_rev {xs : List Int} {cs : List UInt8} (h : vfB xs (bts cs) = true) : vfB xs.reverse (bts (mirr cs)) = true := by
  rw [vfB_down] at h ⊢
  obtain ⟨h1, h2, h3⟩ := h
  rw [bts_list] at h2 h3 ⊢
  rw [fvB_iff] at h2 ⊢
  have hl : xs.length = cs.length := by have := h2.1; omega
  refine ⟨acB_rev h1, ⟨?_, fun c hc => h2.2 c ?_⟩, h3.rev.rot (wl_rev hl)⟩
  · rw [List.length_reverse, hl]
    cases cs <;> simp [mirr]
  · cases cs with
    | nil => exact hc
    | cons d r => simpa [mirr] using hc

/-- a letter exchanged -/
def swB (c : UInt8) : UInt8 := if c = 77 then 86 else if c = 86 then 77 else c
theorem swB_nat (c : UInt8) : (swB c).toNat = swF c.toNat := by
  unfold swB swF
  by_cases h1 : c = 77
  · rw [h1]; rfl
  · by_cases h2 : c = 86
    · rw [h2]; rfl
    · rw [if_neg h1, if_neg h2, if_neg (fun e => h1 (UInt8.toNat_inj.1 (by rw [e]; rfl))), if_neg (fun e => h2 (UInt8.toNat_inj.1 (by rw [e]; rfl)))]
theorem swB_mv {c : UInt8} (h : mvB c = true) : mvB (swB c) = true := by
  unfold swB
  by_cases h1 : c = 77
  · rw [if_pos h1]; rfl
  · by_cases h2 : c = 86
    · rw [if_neg h1, if_pos h2]; rfl
    · rw [if_neg h1, if_neg h2]; exact h
theorem swB_swB (c : UInt8) : swB (swB c) = c := by
  unfold swB
  by_cases h1 : c = 77
  · rw [h1]; rfl
  · by_cases h2 : c = 86
    · rw [h2]; rfl
    · simp [h1, h2]
theorem wl_swap (xs : List Int) (cs : List UInt8) : wl xs (cs.map swB) = (wl xs cs).map swL := by
  induction xs generalizing cs with
  | nil => simp [wl]
  | cons x r ih =>
    cases cs with
    | nil => simp [wl]
    | cons c t => simp [wl, swL, ih, swB_nat]
/-- a text with all letters exchanged -/
def swT (s : ByteArray) : ByteArray := bts (s.data.toList.map swB)
theorem swT_size (s : ByteArray) : (swT s).size = s.size := by
  show (List.toArray _).size = _
  rw [List.size_toArray, List.length_map]; exact size_list s
theorem vf_swap' {xs : List Int} {cs : List UInt8} (h : vfB xs (bts cs) = true) : vfB xs (bts (cs.map swB)) = true := by
  rw [vfB_down] at h ⊢
  obtain ⟨h1, h2, h3⟩ := h
  rw [bts_list] at h2 h3 ⊢
  rw [fvB_iff] at h2 ⊢
  refine ⟨h1, ⟨by simpa using h2.1, fun c hc => ?_⟩, by rw [wl_swap]; exact h3.swap⟩
  obtain ⟨d, hd, rfl⟩ := List.mem_map.1 hc
  exact swB_mv (h2.2 d hd)
theorem swB_map (cs : List UInt8) : (cs.map swB).map swB = cs := by
  rw [List.map_map]
  conv => rhs; rw [← List.map_id cs]
  exact List.map_congr_left fun c _ => swB_swB c
theorem vf_swap (xs : List Int) (cs : List UInt8) : vfB xs (bts (cs.map swB)) = vfB xs (bts cs) := by
  rw [Bool.eq_iff_iff]
  exact ⟨fun h => by have := vf_swap' h; rwa [swB_map] at this, vf_swap'⟩

/-- mountains less valleys of a text -/
def balT : List UInt8 → Int
  | [] => 0
  | c :: r => (if c = 77 then 1 else if c = 86 then -1 else 0) + balT r
theorem mvS_wl {xs : List Int} {cs : List UInt8} (h : xs.length = cs.length) : mvS (wl xs cs) = balT cs := by
  induction xs generalizing cs with
  | nil =>
    cases cs with
    | nil => rfl
    | cons c r => simp at h
  | cons x r ih =>
    cases cs with
    | nil => simp at h
    | cons c t =>
      rw [wl, mvS, mvS, balT, ih (by simpa using h)]
      have e1 : (c.toNat = 77) ↔ c = 77 := ⟨fun e => UInt8.toNat_inj.1 (by rw [e]; rfl), fun e => by rw [e]; rfl⟩
      have e2 : (c.toNat = 86) ↔ c = 86 := ⟨fun e => UInt8.toNat_inj.1 (by rw [e]; rfl), fun e => by rw [e]; rfl⟩
      simp only [e1, e2]
theorem wl_bin {xs : List Int} {cs : List UInt8} (h : ∀ c ∈ cs, mvB c = true) : Bin (wl xs cs) := by
  induction xs generalizing cs with
  | nil => intro f hf; simp [wl] at hf
  | cons x r ih =>
    cases cs with
    | nil => intro f hf; simp [wl] at hf
    | cons c t =>
      intro f hf
      simp [wl] at hf
      rcases hf with rfl | hf
      · have := h c (by simp)
        unfold mvB at this
        simpa using this
      · exact ih (fun c hc => h c (by simp [hc])) f hf
theorem vf_bal {xs : List Int} {cs : List UInt8} (h : vfB xs (bts cs) = true) : balT cs = 2 ∨ balT cs = -2 := by
  rw [vfB_down] at h
  obtain ⟨h1, h2, h3⟩ := h
  rw [bts_list] at h2 h3
  rw [fvB_iff] at h2
  rw [← mvS_wl (xs := xs) (by have := h2.1; omega)]
  exact h3.mvS (wl_bin h2.2)

/-- the angles of a word -/
def xsOf : List Ltr → List Int
  | [] => []
  | .F _ :: r => xsOf r
  | .X x :: r => x :: xsOf r
theorem xsOf_app (u v : List Ltr) : xsOf (u ++ v) = xsOf u ++ xsOf v := by
  induction u with
  | nil => rfl
  | cons y r ih => cases y <;> simp [xsOf, ih]
theorem xsOf_wl {xs : List Int} {cs : List UInt8} (h : xs.length = cs.length) : xsOf (wl xs cs) = xs := by
  induction xs generalizing cs with
  | nil => cases cs <;> rfl
  | cons x r ih =>
    cases cs with
    | nil => simp at h
    | cons c t => simp [wl, xsOf, ih (show r.length = t.length by simpa using h)]
theorem Rot.sum {l m : List Ltr} (h : Rot l m) : (xsOf l).sum = (xsOf m).sum := by
  obtain ⟨u, v, rfl, rfl⟩ := h
  rw [xsOf_app, xsOf_app, sum_app, sum_app]; omega
theorem Rot.xlen {l m : List Ltr} (h : Rot l m) : (xsOf l).length = (xsOf m).length := by
  obtain ⟨u, v, rfl, rfl⟩ := h
  rw [xsOf_app, xsOf_app, List.length_append, List.length_append]; omega
theorem Rot.alt {l m : List Ltr} (h : Rot l m) (he : (xsOf l).length % 2 = 0) : altS (xsOf l) = 0 ↔ altS (xsOf m) = 0 := by
  obtain ⟨u, v, rfl, rfl⟩ := h
  rw [xsOf_app] at he ⊢
  rw [xsOf_app]
  exact (altS_turn he).symm
theorem Step.alt {l m : List Ltr} (h : Step l m) (he : (xsOf l).length % 2 = 0) : (altS (xsOf l) = 0 ↔ altS (xsOf m) = 0) ∧ (xsOf m).length % 2 = 0 := by
  obtain ⟨a, g, b, hh, c, rest, r1, r2, hne, hmin, hlen⟩ := h
  have l1 := r1.xlen
  have l2 := r2.xlen
  simp only [xsOf, List.length_cons] at l1 l2
  refine ⟨?_, by omega⟩
  rw [r1.alt he, ← r2.alt (by simp only [xsOf, List.length_cons]; omega)]
  simp only [xsOf, altS]
  rw [show a - (b - (c - altS (xsOf rest))) = a + c - b - altS (xsOf rest) from by omega]
theorem Step.sums {l m : List Ltr} (h : Step l m) : ∃ b, Ltr.X b ∈ l ∧ (∀ x, Ltr.X x ∈ l → b ≤ x) ∧ (∀ x, Ltr.X x ∈ m → b ≤ x) ∧ (xsOf l).sum = (xsOf m).sum + 2 * b := by
  obtain ⟨a, g, b, hh, c, rest, r1, r2, hne, hmin, hlen⟩ := h
  refine ⟨b, (r1.mem _).2 (by simp), hmin, ?_, ?_⟩
  · intro x hx
    have := (r2.mem _).2 hx
    simp at this
    rcases this with e | e
    · have h1 := hmin a ((r1.mem _).2 (by simp))
      have h2 := hmin c ((r1.mem _).2 (by simp))
      omega
    · exact hmin x ((r1.mem _).2 (by simp [e]))
  · rw [r1.sum, ← r2.sum]
    simp only [xsOf, List.sum_cons]
    omega
end Go.Proofs.Ytnccpifdajcejaa
namespace Go.Proofs.Ytnccpifdajcejaa

theorem pickL_congr {s t : ByteArray} {cs : List Int} (h : ∀ c ∈ cs, s.data.toList.getD c.toNat 0 = t.data.toList.getD c.toNat 0) : pickL s cs = pickL t cs := by
  unfold pickL
  exact List.map_congr_left h
theorem pickL_swap {s : ByteArray} {cs : List Int} (h : ∀ c ∈ cs, 0 ≤ c ∧ c < s.size) : pickL (swT s) cs = (pickL s cs).map swB := by
  unfold pickL swT
  rw [List.map_map]
  refine List.map_congr_left fun c hc => ?_
  have h1 := h c hc
  have hl : c.toNat < s.data.toList.length := by
    have : s.data.toList.length = s.size := by simp
    omega
  show (bts (s.data.toList.map swB)).data.toList.getD c.toNat 0 = swB (s.data.toList.getD c.toNat 0)
  rw [bts_list]
  simp [List.getD_eq_getElem?_getD, List.getElem?_eq_getElem hl]
theorem vfT_swap {s : ByteArray} {v : Vx} (h : ∀ c ∈ v.2, 0 ≤ c ∧ c < s.size) : vfT (swT s) v = vfT s v := by
  unfold vfT picked
  rw [pickL_swap h]
  exact vf_swap v.1 (pickL s v.2)
theorem fvB_swap {s : ByteArray} {n : Int} (h : fvB s.data.toList n = true) : fvB (swT s).data.toList n = true := by
  rw [fvB_iff] at h ⊢
  unfold swT
  rw [bts_list]
  refine ⟨by rw [List.length_map]; exact h.1, fun c hc => ?_⟩
  obtain ⟨d, hd, rfl⟩ := List.mem_map.1 hc
  exact swB_mv (h.2 d hd)
theorem pfB_parts {vs : List Vx} {s : ByteArray} (h : pfB vs s = true) : patB vs = true ∧ fvB s.data.toList (ncr vs) = true ∧ ∀ v ∈ vs, vfT s v = true := by
  unfold pfB at h
  simp only [Bool.and_eq_true, List.all_eq_true] at h
  exact ⟨h.1, h.2.1, h.2.2⟩
theorem pfB_size {vs : List Vx} {s : ByteArray} {n : Int} (h : fvB s.data.toList n = true) : (s.size : Int) = n := by
  rw [fvB_iff] at h
  have : s.data.toList.length = s.size := by simp
  have := h.1
  omega
theorem pat_bd3 {vs : List Vx} (hp : patB vs = true) : ∀ v ∈ vs, v.2.length = v.1.length ∧ v.2.Nodup ∧ ∀ c ∈ v.2, 0 ≤ c ∧ c < ncr vs := by
  intro v hv
  obtain ⟨_, _, hall, _, _, _⟩ := patB_parts hp
  have h0 := List.all_eq_true.1 hall v hv
  have h1 := vtxB_bd h0
  refine ⟨h1.2.1, ?_, fun c hc => ⟨(h1.2.2.2.2 c hc).1, ?_⟩⟩
  · unfold vtxB at h0
    simp only [Bool.and_eq_true] at h0
    exact ((crB_iff _).1 h0.2).2
  · have := (ncGo_le 0 vs).2 v hv c hc
    unfold ncr
    omega
/-- all folds exchanged -/
theorem pfB_swap {vs : List Vx} {s : ByteArray} (h : pfB vs s = true) : pfB vs (swT s) = true := by
  obtain ⟨hp, hf, ha⟩ := pfB_parts h
  have hs := pfB_size (vs := vs) hf
  unfold pfB
  simp only [Bool.and_eq_true, List.all_eq_true]
  refine ⟨hp, fvB_swap hf, fun v hv => ?_⟩
  rw [vfT_swap (fun c hc => by have := (pat_bd3 hp v hv).2.2 c hc; omega)]
  exact ha v hv
/-- one fold exchanged -/
def oneT (s : ByteArray) (k : Nat) : ByteArray := bts (s.data.toList.set k (swB (s.data.toList.getD k 0)))
theorem balT_set {l : List UInt8} {i : Nat} (hi : i < l.length) (hm : ∀ c ∈ l, mvB c = true) : balT (l.set i (swB l[i])) = balT l + 2 ∨ balT (l.set i (swB l[i])) = balT l - 2 := by
  induction l generalizing i with
  | nil => simp at hi
  | cons c r ih =>
    cases i with
    | zero =>
      simp only [List.getElem_cons_zero, List.set_cons_zero, balT]
      have h1 := hm c (by simp)
      by_cases h7 : c = 77
      · subst h7
        have : swB 77 = 86 := by decide
        rw [this]
        right
        simp; omega
      · by_cases h8 : c = 86
        · subst h8
          have : swB 86 = 77 := by decide
          rw [this]
          left
          simp; omega
        · exfalso
          unfold mvB at h1
          simp at h1
          rcases h1 with h1 | h1
          · exact h7 (by first | exact h1 | exact UInt8.toNat_inj.1 (by simpa using h1))
          · exact h8 (by first | exact h1 | exact UInt8.toNat_inj.1 (by simpa using h1))
    | succ i =>
      have hi' : i < r.length := by simpa using hi
      simp only [List.getElem_cons_succ, List.set_cons_succ, balT]
      rcases ih hi' (fun c hc => hm c (by simp [hc])) with h | h
      · left; rw [h]; omega
      · right; rw [h]; omega
theorem pickL_one {s : ByteArray} {cs : List Int} {i k : Nat} (hi : i < cs.length) (hc : cs[i] = (k : Int)) (hn : cs.Nodup) (hk : k < s.size) (hb : ∀ c ∈ cs, 0 ≤ c) : pickL (oneT s k) cs = (pickL s cs).set i (swB ((pickL s cs)[i]'(by rw [pickL_len]; exact hi))) := by
  have hkl : k < s.data.toList.length := by
    have : s.data.toList.length = s.size := by simp
    omega
  apply List.ext_getElem?
  intro j
  rw [List.getElem?_set]
  unfold pickL oneT
  rw [bts_list]
  by_cases hj : j < cs.length
  · by_cases e : i = j
    · subst e
      rw [if_pos rfl, if_pos (by simpa using hj)]
      simp [List.getElem?_eq_getElem hj, hc, List.getD_eq_getElem?_getD, List.getElem?_set, hkl, hk]
    · rw [if_neg e]
      have hne : cs[j] ≠ (k : Int) := by
        intro e2
        have := List.pairwise_iff_getElem.1 (List.nodup_iff_pairwise_ne.1 hn)
        rcases Nat.lt_or_ge i j with h | h
        · exact this i j hi hj h (by rw [hc, e2])
        · exact this j i hj hi (by omega) (by rw [hc, e2])
      have h0 := hb cs[j] (List.getElem_mem hj)
      have hne2 : k ≠ cs[j].toNat := by omega
      simp [List.getElem?_eq_getElem hj, List.getD_eq_getElem?_getD, List.getElem?_set, hne2]
  · rw [List.getElem?_eq_none (by simpa using Nat.le_of_not_lt hj)]
    rw [if_neg (by omega), List.getElem?_eq_none (by simpa using Nat.le_of_not_lt hj)]
theorem pfB_one {vs : List Vx} {s : ByteArray} {k : Nat} (h : pfB vs s = true) (hk : k < s.size) : pfB vs (oneT s k) = false := by
  obtain ⟨hp, hf, ha⟩ := pfB_parts h
  have hs := pfB_size (vs := vs) hf
  obtain ⟨_, _, hall, huse, _, _⟩ := patB_parts hp
  have hu := (usesOk_iff.1 huse) k (by omega)
  obtain ⟨v, hv, hkv⟩ := useN_pos.1 (by omega : 0 < useN vs (k : Int))
  obtain ⟨i, hi, hc⟩ := List.getElem_of_mem hkv
  obtain ⟨hl, hn, hb⟩ := pat_bd3 hp v hv
  have h1 := ha v hv
  rw [← Bool.not_eq_true]
  intro h2
  have h3 := (pfB_parts h2).2.2 v hv
  unfold vfT picked at h1 h3
  rw [pickL_one hi hc hn hk (fun c hc => (hb c hc).1)] at h3
  have b1 := vf_bal (cs := pickL s v.2) h1
  have b2 := vf_bal (cs := (pickL s v.2).set i _) h3
  have hm : ∀ c ∈ pickL s v.2, mvB c = true := by
    intro c hcm
    unfold pickL at hcm
    obtain ⟨d, hd, rfl⟩ := List.mem_map.1 hcm
    have h4 := hb d hd
    have hdl : d.toNat < s.data.toList.length := by
      have : s.data.toList.length = s.size := by simp
      omega
    rw [fvB_iff] at hf
    rw [List.getD_eq_getElem?_getD, List.getElem?_eq_getElem hdl]
    exact hf.2 _ (List.getElem_mem hdl)
  rcases balT_set (i := i) (by rw [pickL_len]; exact hi) hm with e | e <;> rw [e] at b2 <;> omega
end Go.Proofs.Ytnccpifdajcejaa
namespace Go.Proofs.Ytnccpifdajcejaa
open Go.RowKit

/-- PatternCrimp -/
def pcrI (vs : List Vx) (s : ByteArray) : Int := if patB vs && fvB s.data.toList (ncr vs) then (cntX (vcT s) vs : Int) else -1

set_option maxHeartbeats 2000000 in
theorem impl_PatternCrimp (A : Option Addr) (cap : Nat) (vs : List Vx) (s : ByteArray) (w : World) (h : Verts w A vs) (hl : vs.length ≤ maxLen) (hs : s.size ≤ maxLen) (hcap : vs.length ≤ cap) (hcm : cap ≤ maxLen) :
    Calls Try.prog 42 #[.slice A vs.length cap, .string s] w fun e w' => e = .returned (.int .i64 (pcrI vs s)) ∧ Below w.heap.size w w' := by
  obtain ⟨c, hc⟩ : ∃ c, c = pcI vs := ⟨_, rfl⟩
  obtain ⟨f, hf⟩ : ∃ f, f = fvB s.data.toList c := ⟨_, rfl⟩
  have HC := Lib.hid hc
  have HF := Lib.hid hf
  clear hc hf
  go_enter Try.func42, Try.ntmps42
  go_wp2_with fail
  refine (impl_PatternCreases A cap vs w h hl).mono ?_
  rintro e w1 ⟨rfl, hb1⟩
  rw [← HC.out]
  go_wp2_with fail
  refine (impl_FoldsValid s c w1 hs).mono ?_
  rintro e w' ⟨rfl, rfl⟩
  rw [← HF.out]
  cases f with
  | false =>
    have hfin : pcrI vs s = -1 := by
      unfold pcrI
      cases hp : patB vs with
      | false => rfl
      | true =>
        have h1 := HF.out
        rw [HC.out] at h1
        unfold pcI at h1
        rw [hp, if_pos rfl] at h1
        rw [← h1]; rfl
    have HFin := Lib.hid hfin
    clear hfin
    go_wp2_with fail
    go_ret
    exact ⟨ret_int HFin.out.symm, hb1⟩
  | true =>
    have hp : patB vs = true := by
      cases hp : patB vs with
      | true => rfl
      | false =>
        have h1 := HF.out
        rw [HC.out] at h1
        unfold pcI at h1
        rw [hp] at h1
        have h2 : fvB s.data.toList (-1) = true := h1.symm
        rw [fvB_neg] at h2; cases h2
    have hfv : fvB s.data.toList (ncr vs) = true := by
      have h1 := HF.out
      rw [HC.out] at h1
      unfold pcI at h1
      rw [hp, if_pos rfl] at h1
      exact h1.symm
    obtain ⟨hs10, hok⟩ := pat_ok hp hfv
    obtain ⟨h1, h3, _⟩ := patB_parts hp
    have hfin : pcrI vs s = (cntX (vcT s) vs : Int) := by unfold pcrI; rw [hp, hfv]; rfl
    obtain ⟨us, v, hus⟩ : ∃ us v, vs = us ++ [v] := ⟨vs.dropLast, vs.getLast (by intro e; rw [e] at h1; simp at h1), (List.dropLast_concat_getLast _).symm⟩
    have hlen : vs.length = us.length + 1 := by rw [hus]; simp
    obtain ⟨a, ha⟩ : ∃ a, a = cntX (vcT s) vs := ⟨_, rfl⟩
    have hpo : ∀ W : World, Below w.heap.size w W → Calls Try.prog 62 #[.slice A vs.length cap] W fun e w' => ∃ X, e = .returned X ∧ PatV w' vs X ∧ Below W.heap.size W w' := fun W hW => by
      have := impl_patternOf us.length A cap us v W rfl (by omega) (by rw [← hus]; exact h.below hW) (by omega) hcm
      rw [← hus, ← hlen] at this
      exact this
    have HPO := Lib.hid hpo
    have HFin := Lib.hid hfin
    have HA := Lib.hid ha
    have HOK := Lib.hid hok
    clear hp hfv hok hfin hus hlen ha hpo HC HF
    go_wp2_with fail
    refine (HPO.out w1 hb1).mono ?_
    rintro e w2 ⟨X, rfl, hX, hb2⟩
    have b2 := below_from hb1 hb2 hb1.size
    have hcv := countC_any s vs X w2 hX (by omega) HOK.out (by omega)
    rw [← HA.out] at hcv
    have HCV := Lib.hid hcv
    clear hb1 hb2 hcv HPO
    clear hX
    go_wp2_with fail
    refine (HCV.out w2 (Below.refl _ _)).mono ?_
    rintro e w3 ⟨rfl, hb3⟩
    have b3 := below_from b2 hb3 b2.size
    clear b2 hb3
    go_wp2_with fail
    go_ret
    exact ⟨ret_int (by rw [HFin.out, ← HA.out]), b3⟩
end Go.Proofs.Ytnccpifdajcejaa
namespace Go.Proofs.Ytnccpifdajcejaa
open Go.RowKit

theorem vf_crimps {xs : List Int} {s : ByteArray} (h : vfB xs s = true) : xs.length = 2 ∨ 0 < (vcL xs s).length := by
  have h0 := h
  unfold vfB at h
  simp only [Bool.and_eq_true] at h
  obtain ⟨⟨h1, h2⟩, h3⟩ := h
  have ha := (acB_iff xs).1 h1
  unfold ffB at h3
  rw [foldsN] at h3
  cases hc : firstC xs.length (angleAt xs) (byteAt s) with
  | none =>
    rw [hc] at h3
    simp only [Bool.and_eq_true, decide_eq_true_eq] at h3
    exact Or.inl h3.1
  | some i =>
    right
    obtain ⟨⟨r, hr⟩, _⟩ := crimps_some hc
    unfold vcL
    rw [ha.1, h2]
    simp only [Bool.and_self, if_true]
    rw [hr]; simp
end Go.Proofs.Ytnccpifdajcejaa
namespace Go.Proofs.Ytnccpifdajcejaa
open Go.RowKit

theorem vcT_is {s : ByteArray} {v : Vx} (h : vfT s v = true) : vcT s v = decide (2 < v.1.length) := by
  unfold vcT vfT at *
  have h0 := h
  unfold vfB at h
  simp only [Bool.and_eq_true] at h
  have hac := (acB_iff v.1).1 h.1.1
  have hav := (avB_iff v.1).1 hac.1
  rcases vf_crimps h0 with h2 | h2
  · have : vcL v.1 (picked s v.2) = [] := by
      unfold vcL
      split
      · rw [h2]; exact crimpsTo_small (by omega)
      · rfl
    rw [this, h2]; rfl
  · rw [decide_eq_true h2]
    have h3 : 2 < v.1.length := by
      rcases Nat.lt_or_ge 2 v.1.length with h4 | h4
      · exact h4
      · exfalso
        have : vcL v.1 (picked s v.2) = [] := by
          unfold vcL
          split
          · exact crimpsTo_small (by omega)
          · rfl
        rw [this] at h2; simp at h2
    rw [decide_eq_true h3]
/-- how many vertices have more than two angles -/
def cntB : List Vx → Nat
  | [] => 0
  | v :: r => (if 2 < v.1.length then 1 else 0) + cntB r
theorem cntB_is {s : ByteArray} {vs : List Vx} (h : ∀ v ∈ vs, vfT s v = true) : cntX (vcT s) vs = cntB vs := by
  induction vs with
  | nil => rfl
  | cons v r ih =>
    have h1 := vcT_is (h v (by simp))
    have h2 := ih fun u hu => h u (by simp [hu])
    unfold cntX at h2 ⊢
    rw [cntB, List.filter_cons, h1]
    by_cases q : 2 < v.1.length
    · rw [if_pos (by simpa using q), if_pos q, List.length_cons, h2]; omega
    · rw [if_neg (by simpa using q), if_neg q, h2]; omega

set_option maxHeartbeats 2000000 in
theorem law_FnPatternCrimp (A : Option Addr) (cap : Nat) (bs : List UInt8) (w : World) (h : Codes w w.heap.size A bs) (hcap : bs.length ≤ cap) (hcm : cap ≤ maxLen) :
    Calls Try.prog 11 #[.slice A bs.length cap] w fun e w' => e = .returned (.bool true) ∧ Below w.heap.size w w' := by
  have hlm : bs.length ≤ maxLen := Nat.le_trans hcap hcm
  have hlm2 := hlm
  unfold maxLen at hlm2
  by_cases g1 : 1048576 < bs.length
  · have d1 : decide ((1048576 : Int) < (bs.length : Int)) = true := by simp; omega
    go_enter Try.func11, Try.ntmps11
    go_wp2_with fail
    go_ret
    exact ⟨rfl, Below.refl _ _⟩
  · have d1 : decide ((1048576 : Int) < (bs.length : Int)) = false := by simp; omega
    go_enter Try.func11, Try.ntmps11
    go_wp2_with fail
    refine (spec_DrawPatternFolds w A cap bs h (by omega) hcap hcm).mono ?_
    rintro e w1 ⟨B, vs, c, s, rfl, hV, hl2, hlc, hcm2, hlen, hs, hb1⟩
    have HLen := Lib.hid hlen
    have hlv : vs.length ≤ maxLen := by unfold maxLen; omega
    have hsm : s.size ≤ maxLen := by unfold maxLen; omega
    obtain ⟨p, hp⟩ : ∃ p, p = pfB vs s := ⟨_, rfl⟩
    have HP := Lib.hid hp
    clear hlen hp
    go_wp2_with fail
    refine (impl_PatternFolds B c vs s w1 hV hlv hsm hlc hcm2).mono ?_
    rintro e w2 ⟨rfl, hb2⟩
    rw [← HP.out]
    have b2 := below_from hb1 hb2 hb1.size
    have hV2 := hV.below hb2
    clear hb1 hb2 hV
    go_wp2_with fail
    refine (spec_PatternFolds B c vs s w2 hV2 hlv hsm).mono ?_
    rintro e w3 ⟨rfl, hb3⟩
    rw [← HP.out]
    have b3 := below_from b2 hb3 b2.size
    have hV3 := hV2.below hb3
    clear b2 hb3 hV2
    cases p with
    | false =>
      go_wp2_with fail
      go_ret
      exact ⟨rfl, b3⟩
    | true =>
      obtain ⟨hpp, hff, hall⟩ := pfB_parts HP.out.symm
      have hcn : pcrI vs s = (cntB vs : Int) := by unfold pcrI; rw [hpp, hff]; simp [cntB_is hall]
      have HCN := Lib.hid hcn
      have HV3 := Lib.hid hV3
      have HB3 := Lib.hid b3
      clear hpp hff hall hcn hV3 b3
      go_wp2_with fail
      go_loop [7, 8] (fun s7 s8 => ∃ (k q : Nat), k ≤ vs.length ∧ s8 = .int .i64 k ∧ s7 = .int .i64 q ∧ q ≤ k ∧ Hid (q + cntB (vs.drop k) = cntB vs)) (fun _ s8 => vs.length - (intOf s8).toNat)
      case atStart => exact ⟨0, 0, Nat.zero_le _, rfl, rfl, by omega, by show 0 + _ = _; simp⟩
      case round =>
        obtain ⟨k, q, hk, rfl, rfl, hq, HQ⟩ := hrel
        by_cases hlt : k < vs.length
        · obtain ⟨b, off, A1, c1, A2, c2, rfl, hb, r1, r2, _, l1, m1, _, _, _⟩ := HV3.out.at_ hlt
          have hlv := HLen.out vs[k] (List.getElem_mem hlt)
          have hd := List.drop_eq_getElem_cons hlt
          obtain ⟨m, hm⟩ : ∃ m, m = vs[k].1.length := ⟨_, rfl⟩
          rw [← hm] at r1 hlv
          have k1 : (k : Int) < (vs.length : Int) := by omega
          have k0 : (0 : Int) ≤ (k : Int) := by omega
          by_cases hm2 : 2 < m
          · have dm : decide ((2 : Int) < (m : Int)) = true := by simp; omega
            have HQ2 : Hid (q + 1 + cntB (vs.drop (k + 1)) = cntB vs) := by show _ = _; rw [← HQ.out, hd, cntB, ← hm, if_pos hm2]; omega
            clear hm hd l1 HQ
            go_wp2_with fail
            go_round
            case rel => exact ⟨k + 1, q + 1, by omega, by go_num, by go_num, by omega, HQ2⟩
            case measure => simp [intOf]; omega
          · have dm : decide ((2 : Int) < (m : Int)) = false := by simp; omega
            have HQ2 : Hid (q + cntB (vs.drop (k + 1)) = cntB vs) := by show _ = _; rw [← HQ.out, hd, cntB, ← hm, if_neg hm2]; omega
            clear hm hd l1 HQ
            go_wp2_with fail
            go_round
            case rel => exact ⟨k + 1, q, by omega, by go_num, rfl, by omega, HQ2⟩
            case measure => simp [intOf]; omega
        · obtain rfl : k = vs.length := by omega
          have hqf : cntB vs = q := by have := HQ.out; rw [List.drop_length] at this; simpa [cntB] using this.symm
          have HQF := Lib.hid hqf
          have dqq : ((q : Int) == (q : Int)) = true := by simp
          clear hqf HQ
          go_wp2_with fail
          refine (impl_PatternCrimp B c vs s w3 HV3.out hlv hsm hlc hcm2).mono ?_
          rintro e w4 ⟨rfl, hb4⟩
          rw [HCN.out, HQF.out]
          have b4 := below_from HB3.out hb4 HB3.out.size
          go_wp2_with fail
          go_ret
          exact ⟨rfl, b4⟩
end Go.Proofs.Ytnccpifdajcejaa
