/- What turning, reading backwards and exchanging folds do to a vertex that folds; its balance; what a crimp does to sums. No condition but sizes. A pattern's folds: all exchanged, one exchanged; vertices that can be crimped. No program, no condition. The laws' own helpers on vertices: a comparison of lists, texts turned and read backwards, powers and texts by rank. No condition but sizes. -/
import Derived.Test.YtnccpifdajcejaaFnPatternWithoutP44
import Derived.Test.YtnccpifdajcejaaFnPatternWithoutP41
import Derived.Test.YtnccpifdajcejaaFnPatternWithoutP43
namespace Go.Proofs.Ytnccpifdajcejaa

/-- the sum with alternating signs -/
def altS : List Int → Int
  | [] => 0
  | x :: r => x - altS r
theorem balGo_alt (k : Nat) (s : Int) (xs : List Int) : balGo k s xs = s + (if k % 2 = 0 then altS xs else -altS xs) := by
  induction xs generalizing k s with
  | nil => simp [balGo, altS]
  | cons x r ih =>
    rw [balGo, ih, altS]
    by_cases e : k % 2 = 0
    · rw [if_pos e, if_neg (by omega), if_pos e]; omega
    · rw [if_neg e, if_pos (by omega), if_neg e]; omega
theorem balB_alt (xs : List Int) : balB xs = decide (altS xs = 0) := by
  unfold balB
  rw [balGo_alt]; simp
theorem altS_app (u v : List Int) : altS (u ++ v) = altS u + (if u.length % 2 = 0 then altS v else -altS v) := by
  induction u with
  | nil => simp [altS]
  | cons x r ih =>
    rw [List.cons_append, altS, altS, ih, List.length_cons]
    by_cases e : r.length % 2 = 0
    · rw [if_pos e, if_neg (by omega)]; omega
    · rw [if_neg e, if_pos (by omega)]; omega
theorem altS_turn {u v : List Int} (h : (u ++ v).length % 2 = 0) : altS (v ++ u) = 0 ↔ altS (u ++ v) = 0 := by
  rw [altS_app, altS_app]
  rw [List.length_append] at h
  by_cases e : u.length % 2 = 0
  · rw [if_pos e, if_pos (by omega)]; omega
  · rw [if_neg e, if_neg (by omega)]; omega
theorem altS_rev (xs : List Int) : altS xs.reverse = if xs.length % 2 = 0 then -altS xs else altS xs := by
  induction xs with
  | nil => simp [altS]
  | cons x r ih =>
    rw [List.reverse_cons, altS_app, ih, List.length_reverse, List.length_cons]
    have e1 : altS [x] = x := by simp [altS]
    rw [e1]; simp only [altS]
    by_cases e : r.length % 2 = 0
    · rw [if_pos e, if_pos e, if_neg (by omega)]; omega
    · rw [if_neg e, if_neg e, if_pos (by omega)]; omega
theorem avB_iff (xs : List Int) : avB xs = true ↔ xs.length % 2 = 0 ∧ 2 ≤ xs.length ∧ xs.length ≤ 10 ∧ (∀ x ∈ xs, 1 ≤ x ∧ x ≤ 360) ∧ xs.sum = 360 := by
  constructor
  · exact avB_parts
  · rintro ⟨a, b, c, d, e⟩
    unfold avB
    simp only [Bool.and_eq_true, decide_eq_true_eq, List.all_eq_true]
    exact ⟨⟨⟨⟨a, b⟩, c⟩, d⟩, e⟩
theorem acB_iff (xs : List Int) : acB xs = true ↔ avB xs = true ∧ altS xs = 0 := by
  unfold acB
  rw [Bool.and_eq_true, balB_alt, decide_eq_true_eq]
theorem sum_app (u v : List Int) : (u ++ v).sum = u.sum + v.sum := by
  induction u with
  | nil => simp
  | cons x r ih => rw [List.cons_append, List.sum_cons, ih, List.sum_cons]; omega
theorem sum_rev (u : List Int) : u.reverse.sum = u.sum := by
  induction u with
  | nil => rfl
  | cons x r ih => rw [List.reverse_cons, sum_app, ih, List.sum_cons]; simp; omega
theorem avB_turn {u v : List Int} (h : avB (u ++ v) = true) : avB (v ++ u) = true := by
  rw [avB_iff] at h ⊢
  obtain ⟨a, b, c, d, e⟩ := h
  rw [List.length_append] at a b c
  rw [sum_app] at e
  refine ⟨by rw [List.length_append]; omega, by rw [List.length_append]; omega, by rw [List.length_append]; omega, fun x hx => d x ?_, by rw [sum_app]; omega⟩
  rw [List.mem_append] at hx ⊢
  exact hx.symm
theorem acB_turn {u v : List Int} (h : acB (u ++ v) = true) : acB (v ++ u) = true := by
  rw [acB_iff] at h ⊢
  exact ⟨avB_turn h.1, (altS_turn (avB_parts h.1).1).2 h.2⟩
theorem avB_rev {xs : List Int} (h : avB xs = true) : avB xs.reverse = true := by
  rw [avB_iff] at h ⊢
  obtain ⟨a, b, c, d, e⟩ := h
  exact ⟨by simpa using a, by simpa using b, by simpa using c, fun x hx => d x (by simpa using hx), by rw [sum_rev]; exact e⟩
theorem acB_rev {xs : List Int} (h : acB xs = true) : acB xs.reverse = true := by
  rw [acB_iff] at h ⊢
  refine ⟨avB_rev h.1, ?_⟩
  rw [altS_rev, if_pos (avB_parts h.1).1]; omega
theorem fvB_iff (cs : List UInt8) (n : Int) : fvB cs n = true ↔ (cs.length : Int) = n ∧ ∀ c ∈ cs, mvB c = true := by
  unfold fvB
  simp only [Bool.and_eq_true, decide_eq_true_eq, List.all_eq_true]

/-- a text out of its bytes -/
abbrev bts (cs : List UInt8) : ByteArray := ⟨cs.toArray⟩
theorem bts_list (cs : List UInt8) : (bts cs).data.toList = cs := rfl
theorem bts_of (s : ByteArray) : bts s.data.toList = s := by cases s; rfl

theorem vf_turn' {u v : List Int} {u' v' : List UInt8} (hl : u.length = u'.length) (h : vfB (u ++ v) (bts (u' ++ v')) = true) : vfB (v ++ u) (bts (v' ++ u')) = true := by
  rw [vfB_down] at h ⊢
  obtain ⟨h1, h2, h3⟩ := h
  rw [bts_list] at h2 h3 ⊢
  rw [fvB_iff] at h2 ⊢
  have hl' : v.length = v'.length := by
    have := h2.1
    rw [List.length_append, List.length_append] at this; omega
  refine ⟨acB_turn h1, ⟨by rw [List.length_append, List.length_append]; omega, fun c hc => h2.2 c ?_⟩, ?_⟩
  · rw [List.mem_append] at hc ⊢; exact hc.symm
  · rw [wl_app hl] at h3
    rw [wl_app hl']
    exact h3.rot (rot_mk _ _)
theorem vf_turn {u v : List Int} {u' v' : List UInt8} (hl : u.length = u'.length) (hl' : v.length = v'.length) : vfB (v ++ u) (bts (v' ++ u')) = vfB (u ++ v) (bts (u' ++ v')) := by
  rw [Bool.eq_iff_iff]
  exact ⟨vf_turn' hl', vf_turn' hl⟩

/-- read backwards, the first letter first -/
def mirr : List UInt8 → List UInt8
  | [] => []
  | c :: r => c :: r.reverse
theorem wl_rev {xs : List Int} {cs : List UInt8} (h : xs.length = cs.length) : Rot (wl xs cs).reverse (wl xs.reverse (mirr cs)) := by
  cases cs with
  | nil =>
    have : xs = [] := List.eq_nil_of_length_eq_zero (by simpa using h)
    subst this
    exact Rot.refl _
  | cons c r =>
    -- the word backwards, its last letter taken to the front
    have key : ∀ (ys : List Int) (ds : List UInt8) (e : UInt8), ys.length = ds.length + 1 → ∃ t, (wl ys (e :: ds)).reverse = t ++ [Ltr.F e.toNat] ∧ wl ys.reverse (e :: ds.reverse) = [Ltr.F e.toNat] ++ t := by
      intro ys
      induction ys with
      | nil => intro ds e h; simp at h
      | cons y ys ih =>
        intro ds e h
        cases ds with
        | nil =>
          have : ys = [] := List.eq_nil_of_length_eq_zero (by simpa using h)
          subst this
          exact ⟨[Ltr.X y], by simp [wl], by simp [wl]⟩
        | cons d ds =>
          obtain ⟨t, e1, e2⟩ := ih ds d (by simpa using h)
          refine ⟨t ++ [Ltr.F d.toNat, Ltr.X y], ?_, ?_⟩
          · rw [wl, List.reverse_cons, List.reverse_cons, e1]; simp
          · rw [List.reverse_cons, List.reverse_cons]
            have hl : ys.reverse.length = (e :: ds.reverse).length := by simpa using h
            rw [show e :: (ds.reverse ++ [d]) = (e :: ds.reverse) ++ [d] from rfl, wl_app hl]
            have e3 : wl ys.reverse (e :: ds.reverse) = [Ltr.F e.toNat] ++ t := by
              cases hys : ys.reverse with
              | nil => rw [hys] at hl; simp at hl
              | cons z zs =>
                rw [hys] at e2
                simp only [wl, List.cons_append, List.nil_append, List.cons.injEq] at e2 ⊢
                exact ⟨trivial, e2.2⟩
            rw [e3]; simp [wl]
    obtain ⟨t, e1, e2⟩ := key xs r c (by simpa using h)
    rw [e1, mirr, e2]
    exact rot_mk _ _
theorem vf_rev {xs : List Int} {cs : List UInt8} (h : vfB xs (bts cs) = true) : vfB xs.reverse (bts (mirr cs)) = true := by
  rw [vfB_down] at h ⊢
  obtain ⟨h1, h2, h3⟩ := h
  rw [bts_list] at h2 h3 ⊢
  rw [fvB_iff] at h2 ⊢
  have hl : xs.length = cs.length := by have := h2.1; omega
  refine ⟨acB_rev h1, ⟨?_, fun c hc => h2.2 c ?_⟩, h3.rev.rot (wl_rev hl)⟩
  · rw [List.length_reverse, hl]
    cases cs <;> simp [mirr]
  · cases cs with
    | nil => exact hc
    | cons d r => simpa [mirr] using hc

/-- a letter exchanged -/
def swB (c : UInt8) : UInt8 := if c = 77 then 86 else if c = 86 then 77 else c
theorem swB_nat (c : UInt8) : (swB c).toNat = swF c.toNat := by
  unfold swB swF
  by_cases h1 : c = 77
  · rw [h1]; rfl
  · by_cases h2 : c = 86
    · rw [h2]; rfl
    · rw [if_neg h1, if_neg h2, if_neg (fun e => h1 (UInt8.toNat_inj.1 (by rw [e]; rfl))), if_neg (fun e => h2 (UInt8.toNat_inj.1 (by rw [e]; rfl)))]
theorem swB_mv {c : UInt8} (h : mvB c = true) : mvB (swB c) = true := by
  unfold swB
  by_cases h1 : c = 77
  · rw [if_pos h1]; rfl
  · by_cases h2 : c = 86
    · rw [if_neg h1, if_pos h2]; rfl
    · rw [if_neg h1, if_neg h2]; exact h
theorem swB_swB (c : UInt8) : swB (swB c) = c := by
  unfold swB
  by_cases h1 : c = 77
  · rw [h1]; rfl
  · by_cases h2 : c = 86
    · rw [h2]; rfl
    · simp [h1, h2]
theorem wl_swap (xs : List Int) (cs : List UInt8) : wl xs (cs.map swB) = (wl xs cs).map swL := by
  induction xs generalizing cs with
  | nil => simp [wl]
  | cons x r ih =>
    cases cs with
    | nil => simp [wl]
    | cons c t => simp [wl, swL, ih, swB_nat]
/-- a text with all letters exchanged -/
def swT (s : ByteArray) : ByteArray := bts (s.data.toList.map swB)
theorem swT_size (s : ByteArray) : (swT s).size = s.size := by
  show (List.toArray _).size = _
  rw [List.size_toArray, List.length_map]; exact size_list s
theorem vf_swap' {xs : List Int} {cs : List UInt8} (h : vfB xs (bts cs) = true) : vfB xs (bts (cs.map swB)) = true := by
  rw [vfB_down] at h ⊢
  obtain ⟨h1, h2, h3⟩ := h
  rw [bts_list] at h2 h3 ⊢
  rw [fvB_iff] at h2 ⊢
  refine ⟨h1, ⟨by simpa using h2.1, fun c hc => ?_⟩, by rw [wl_swap]; exact h3.swap⟩
  obtain ⟨d, hd, rfl⟩ := List.mem_map.1 hc
  exact swB_mv (h2.2 d hd)
theorem swB_map (cs : List UInt8) : (cs.map swB).map swB = cs := by
  rw [List.map_map]
  conv => rhs; rw [← List.map_id cs]
  exact List.map_congr_left fun c _ => swB_swB c
theorem vf_swap (xs : List Int) (cs : List UInt8) : vfB xs (bts (cs.map swB)) = vfB xs (bts cs) := by
  rw [Bool.eq_iff_iff]
  exact ⟨fun h => by have := vf_swap' h; rwa [swB_map] at this, vf_swap'⟩

/-- mountains less valleys of a text -/
def balT : List UInt8 → Int
  | [] => 0
  | c :: r => (if c = 77 then 1 else if c = 86 then -1 else 0) + balT r
theorem mvS_wl {xs : List Int} {cs : List UInt8} (h : xs.length = cs.length) : mvS (wl xs cs) = balT cs := by
  induction xs generalizing cs with
  | nil =>
    cases cs with
    | nil => rfl
    | cons c r => simp at h
  | cons x r ih =>
    cases cs with
    | nil => simp at h
    | cons c t =>
      rw [wl, mvS, mvS, balT, ih (by simpa using h)]
      have e1 : (c.toNat = 77) ↔ c = 77 := ⟨fun e => UInt8.toNat_inj.1 (by rw [e]; rfl), fun e => by rw [e]; rfl⟩
      have e2 : (c.toNat = 86) ↔ c = 86 := ⟨fun e => UInt8.toNat_inj.1 (by rw [e]; rfl), fun e => by rw [e]; rfl⟩
      simp only [e1, e2]
theorem wl_bin {xs : List Int} {cs : List UInt8} (h : ∀ c ∈ cs, mvB c = true) : Bin (wl xs cs) := by
  induction xs generalizing cs with
  | nil => intro f hf; simp [wl] at hf
  | cons x r ih =>
    cases cs with
    | nil => intro f hf; simp [wl] at hf
    | cons c t =>
      intro f hf
      simp [wl] at hf
      rcases hf with rfl | hf
      · have := h c (by simp)
        unfold mvB at this
        simpa using this
      · exact ih (fun c hc => h c (by simp [hc])) f hf
theorem vf_bal {xs : List Int} {cs : List UInt8} (h : vfB xs (bts cs) = true) : balT cs = 2 ∨ balT cs = -2 := by
  rw [vfB_down] at h
  obtain ⟨h1, h2, h3⟩ := h
  rw [bts_list] at h2 h3
  rw [fvB_iff] at h2
  rw [← mvS_wl (xs := xs) (by have := h2.1; omega)]
  exact h3.mvS (wl_bin h2.2)

/-- the angles of a word -/
def xsOf : List Ltr → List Int
  | [] => []
  | .F _ :: r => xsOf r
  | .X x :: r => x :: xsOf r
theorem xsOf_app (u v : List Ltr) : xsOf (u ++ v) = xsOf u ++ xsOf v := by
  induction u with
  | nil => rfl
  | cons y r ih => cases y <;> simp [xsOf, ih]
theorem xsOf_wl {xs : List Int} {cs : List UInt8} (h : xs.length = cs.length) : xsOf (wl xs cs) = xs := by
  induction xs generalizing cs with
  | nil => cases cs <;> rfl
  | cons x r ih =>
    cases cs with
    | nil => simp at h
    | cons c t => simp [wl, xsOf, ih (show r.length = t.length by simpa using h)]
theorem Rot.sum {l m : List Ltr} (h : Rot l m) : (xsOf l).sum = (xsOf m).sum := by
  obtain ⟨u, v, rfl, rfl⟩ := h
  rw [xsOf_app, xsOf_app, sum_app, sum_app]; omega
theorem Rot.xlen {l m : List Ltr} (h : Rot l m) : (xsOf l).length = (xsOf m).length := by
  obtain ⟨u, v, rfl, rfl⟩ := h
  rw [xsOf_app, xsOf_app, List.length_append, List.length_append]; omega
theorem Rot.alt {l m : List Ltr} (h : Rot l m) (he : (xsOf l).length % 2 = 0) : altS (xsOf l) = 0 ↔ altS (xsOf m) = 0 := by
  obtain ⟨u, v, rfl, rfl⟩ := h
  rw [xsOf_app] at he ⊢
  rw [xsOf_app]
  exact (altS_turn he).symm
theorem Step.alt {l m : List Ltr} (h : Step l m) (he : (xsOf l).length % 2 = 0) : (altS (xsOf l) = 0 ↔ altS (xsOf m) = 0) ∧ (xsOf m).length % 2 = 0 := by
  obtain ⟨a, g, b, hh, c, rest, r1, r2, hne, hmin, hlen⟩ := h
  have l1 := r1.xlen
  have l2 := r2.xlen
  simp only [xsOf, List.length_cons] at l1 l2
  refine ⟨?_, by omega⟩
  rw [r1.alt he, ← r2.alt (by simp only [xsOf, List.length_cons]; omega)]
  simp only [xsOf, altS]
  rw [show a - (b - (c - altS (xsOf rest))) = a + c - b - altS (xsOf rest) from by omega]
theorem Step.sums {l m : List Ltr} (h : Step l m) : ∃ b, Ltr.X b ∈ l ∧ (∀ x, Ltr.X x ∈ l → b ≤ x) ∧ (∀ x, Ltr.X x ∈ m → b ≤ x) ∧ (xsOf l).sum = (xsOf m).sum + 2 * b := by
  obtain ⟨a, g, b, hh, c, rest, r1, r2, hne, hmin, hlen⟩ := h
  refine ⟨b, (r1.mem _).2 (by simp), hmin, ?_, ?_⟩
  · intro x hx
    have := (r2.mem _).2 hx
    simp at this
    rcases this with e | e
    · have h1 := hmin a ((r1.mem _).2 (by simp))
      have h2 := hmin c ((r1.mem _).2 (by simp))
      omega
    · exact hmin x ((r1.mem _).2 (by simp [e]))
  · rw [r1.sum, ← r2.sum]
    simp only [xsOf, List.sum_cons]
    omega
end Go.Proofs.Ytnccpifdajcejaa
namespace Go.Proofs.Ytnccpifdajcejaa

theorem pickL_congr {s t : ByteArray} {cs : List Int} (h : ∀ c ∈ cs, s.data.toList.getD c.toNat 0 = t.data.toList.getD c.toNat 0) : pickL s cs = pickL t cs := by
  unfold pickL
  exact List.map_congr_left h
theorem pickL_swap {s : ByteArray} {cs : List Int} (h : ∀ c ∈ cs, 0 ≤ c ∧ c < s.size) : pickL (swT s) cs = (pickL s cs).map swB := by
  unfold pickL swT
  rw [List.map_map]
  refine List.map_congr_left fun c hc => ?_
  have h1 := h c hc
  have hl : c.toNat < s.data.toList.length := by
    have : s.data.toList.length = s.size := by simp
    omega
  show (bts (s.data.toList.map swB)).data.toList.getD c.toNat 0 = swB (s.data.toList.getD c.toNat 0)
  rw [bts_list]
  simp [List.getD_eq_getElem?_getD, List.getElem?_eq_getElem hl]
theorem vfT_swap {s : ByteArray} {v : Vx} (h : ∀ c ∈ v.2, 0 ≤ c ∧ c < s.size) : vfT (swT s) v = vfT s v := by
  unfold vfT picked
  rw [pickL_swap h]
  exact vf_swap v.1 (pickL s v.2)
theorem fvB_swap {s : ByteArray} {n : Int} (h : fvB s.data.toList n = true) : fvB (swT s).data.toList n = true := by
  rw [fvB_iff] at h ⊢
  unfold swT
  rw [bts_list]
  refine ⟨by rw [List.length_map]; exact h.1, fun c hc => ?_⟩
  obtain ⟨d, hd, rfl⟩ := List.mem_map.1 hc
  exact swB_mv (h.2 d hd)
theorem pfB_parts {vs : List Vx} {s : ByteArray} (h : pfB vs s = true) : patB vs = true ∧ fvB s.data.toList (ncr vs) = true ∧ ∀ v ∈ vs, vfT s v = true := by
  unfold pfB at h
  simp only [Bool.and_eq_true, List.all_eq_true] at h
  exact ⟨h.1, h.2.1, h.2.2⟩
theorem pfB_size {s : ByteArray} {n : Int} (h : fvB s.data.toList n = true) : (s.size : Int) = n := by
  rw [fvB_iff] at h
  have : s.data.toList.length = s.size := by simp
  have := h.1
  omega
theorem pat_bd3 {vs : List Vx} (hp : patB vs = true) : ∀ v ∈ vs, v.2.length = v.1.length ∧ v.2.Nodup ∧ ∀ c ∈ v.2, 0 ≤ c ∧ c < ncr vs := by
  intro v hv
  obtain ⟨_, _, hall, _, _, _⟩ := patB_parts hp
  have h0 := List.all_eq_true.1 hall v hv
  have h1 := vtxB_bd h0
  refine ⟨h1.2.1, ?_, fun c hc => ⟨(h1.2.2.2.2 c hc).1, ?_⟩⟩
  · unfold vtxB at h0
    simp only [Bool.and_eq_true] at h0
    exact ((crB_iff _).1 h0.2).2
  · have := (ncGo_le 0 vs).2 v hv c hc
    unfold ncr
    omega
/-- all folds exchanged -/
theorem pfB_swap {vs : List Vx} {s : ByteArray} (h : pfB vs s = true) : pfB vs (swT s) = true := by
  obtain ⟨hp, hf, ha⟩ := pfB_parts h
  have hs := pfB_size hf
  unfold pfB
  simp only [Bool.and_eq_true, List.all_eq_true]
  refine ⟨hp, fvB_swap hf, fun v hv => ?_⟩
  rw [vfT_swap (fun c hc => by have := (pat_bd3 hp v hv).2.2 c hc; omega)]
  exact ha v hv
/-- one fold exchanged -/
def oneT (s : ByteArray) (k : Nat) : ByteArray := bts (s.data.toList.set k (swB (s.data.toList.getD k 0)))
theorem balT_set {l : List UInt8} {i : Nat} (hi : i < l.length) (hm : ∀ c ∈ l, mvB c = true) : balT (l.set i (swB l[i])) = balT l + 2 ∨ balT (l.set i (swB l[i])) = balT l - 2 := by
  induction l generalizing i with
  | nil => simp at hi
  | cons c r ih =>
    cases i with
    | zero =>
      simp only [List.getElem_cons_zero, List.set_cons_zero, balT]
      have h1 := hm c (by simp)
      by_cases h7 : c = 77
      · subst h7
        have : swB 77 = 86 := by decide
        rw [this]
        right
        simp; omega
      · by_cases h8 : c = 86
        · subst h8
          have : swB 86 = 77 := by decide
          rw [this]
          left
          simp; omega
        · exfalso
          unfold mvB at h1
          simp at h1
          rcases h1 with h1 | h1
          · exact h7 (by first | exact h1 | exact UInt8.toNat_inj.1 (by simpa using h1))
          · exact h8 (by first | exact h1 | exact UInt8.toNat_inj.1 (by simpa using h1))
    | succ i =>
      have hi' : i < r.length := by simpa using hi
      simp only [List.getElem_cons_succ, List.set_cons_succ, balT]
      rcases ih hi' (fun c hc => hm c (by simp [hc])) with h | h
      · left; rw [h]; omega
      · right; rw [h]; omega
theorem pickL_one {s : ByteArray} {cs : List Int} {i k : Nat} (hi : i < cs.length) (hc : cs[i] = (k : Int)) (hn : cs.Nodup) (hk : k < s.size) (hb : ∀ c ∈ cs, 0 ≤ c) : pickL (oneT s k) cs = (pickL s cs).set i (swB ((pickL s cs)[i]'(by rw [pickL_len]; exact hi))) := by
  have hkl : k < s.data.toList.length := by
    have : s.data.toList.length = s.size := by simp
    omega
  apply List.ext_getElem?
  intro j
  rw [List.getElem?_set]
  unfold pickL oneT
  rw [bts_list]
  by_cases hj : j < cs.length
  · by_cases e : i = j
    · subst e
      rw [if_pos rfl, if_pos (by simpa using hj)]
      simp [List.getElem?_eq_getElem hj, hc, List.getD_eq_getElem?_getD, List.getElem?_set, hk]
    · rw [if_neg e]
      have hne : cs[j] ≠ (k : Int) := by
        intro e2
        have := List.pairwise_iff_getElem.1 (List.nodup_iff_pairwise_ne.1 hn)
        rcases Nat.lt_or_ge i j with h | h
        · exact this i j hi hj h (by rw [hc, e2])
        · exact this j i hj hi (by omega) (by rw [hc, e2])
      have h0 := hb cs[j] (List.getElem_mem hj)
      have hne2 : k ≠ cs[j].toNat := by omega
      simp [List.getElem?_eq_getElem hj, List.getD_eq_getElem?_getD, List.getElem?_set, hne2]
  · rw [List.getElem?_eq_none (by simpa using Nat.le_of_not_lt hj)]
    rw [if_neg (by omega), List.getElem?_eq_none (by simpa using Nat.le_of_not_lt hj)]
theorem pfB_one {vs : List Vx} {s : ByteArray} {k : Nat} (h : pfB vs s = true) (hk : k < s.size) : pfB vs (oneT s k) = false := by
  obtain ⟨hp, hf, ha⟩ := pfB_parts h
  have hs := pfB_size hf
  obtain ⟨_, _, hall, huse, _, _⟩ := patB_parts hp
  have hu := (usesOk_iff.1 huse) k (by omega)
  obtain ⟨v, hv, hkv⟩ := useN_pos.1 (by omega : 0 < useN vs (k : Int))
  obtain ⟨i, hi, hc⟩ := List.getElem_of_mem hkv
  obtain ⟨hl, hn, hb⟩ := pat_bd3 hp v hv
  have h1 := ha v hv
  rw [← Bool.not_eq_true]
  intro h2
  have h3 := (pfB_parts h2).2.2 v hv
  unfold vfT picked at h1 h3
  rw [pickL_one hi hc hn hk (fun c hc => (hb c hc).1)] at h3
  have b1 := vf_bal (cs := pickL s v.2) h1
  have b2 := vf_bal (cs := (pickL s v.2).set i _) h3
  have hm : ∀ c ∈ pickL s v.2, mvB c = true := by
    intro c hcm
    unfold pickL at hcm
    obtain ⟨d, hd, rfl⟩ := List.mem_map.1 hcm
    have h4 := hb d hd
    have hdl : d.toNat < s.data.toList.length := by
      have : s.data.toList.length = s.size := by simp
      omega
    rw [fvB_iff] at hf
    rw [List.getD_eq_getElem?_getD, List.getElem?_eq_getElem hdl]
    exact hf.2 _ (List.getElem_mem hdl)
  rcases balT_set (i := i) (by rw [pickL_len]; exact hi) hm with e | e <;> rw [e] at b2 <;> omega
end Go.Proofs.Ytnccpifdajcejaa
namespace Go.Proofs.Ytnccpifdajcejaa
open Go.RowKit

def eqGoS : List Int → List Int → Bool
  | [], _ => true
  | x :: r, y :: r' => if x = y then eqGoS r r' else false
  | _ :: _, [] => true
theorem eqGoS_eq {xs ys : List Int} (h : xs.length = ys.length) : eqGoS xs ys = decide (xs = ys) := by
  induction xs generalizing ys with
  | nil => cases ys with
    | nil => rfl
    | cons y r => simp at h
  | cons x r ih =>
    cases ys with
    | nil => simp at h
    | cons y r' =>
      rw [eqGoS, ih (by simpa using h)]
      by_cases e : x = y
      · simp [e]
      · simp [e]

set_option maxHeartbeats 1000000 in
theorem laws_sameInts (A A' : Option Addr) (cap cap' : Nat) (xs ys : List Int) (w : World) (h : Ints w A xs) (h' : Ints w A' ys) (hl : xs.length ≤ maxLen) (_hl' : ys.length ≤ maxLen) :
    Calls Try.prog 27 #[.slice A xs.length cap, .slice A' ys.length cap'] w fun e w' => e = .returned (.bool (decide (xs = ys))) ∧ ∃ m, w.drewN m = w' := by
  unfold maxLen at hl
  by_cases e : xs.length = ys.length
  · have d1 : ((xs.length : Int) != (ys.length : Int)) = false := by rw [bne_eq_false_iff_eq]; omega
    have hys : ys.length ≤ xs.length ∧ xs.length ≤ ys.length := by omega
    have E := Lib.hid e
    clear e
    go_enter Try.func27, Try.ntmps27
    go_wp2_with fail
    go_loopg [5] (xs.length + 1) (fun g i wr => ∃ (k m : Nat), k ≤ xs.length ∧ i = .int .i64 k ∧ xs.length - k < g ∧ w.drewN m = wr ∧ Hid (eqGoS xs ys = eqGoS (xs.drop k) (ys.drop k)))
    case atStart => exact ⟨0, 0, Nat.zero_le _, rfl, by omega, rfl, rfl⟩
    case round =>
      obtain ⟨k, m, hk, rfl, hg, rfl, H⟩ := hrel
      cases gk with
      | zero => omega
      | succ g =>
      by_cases hlt : k < xs.length
      · obtain ⟨b, off, x, rfl, hb, HX, hc, _⟩ := h.at_ hlt
        obtain ⟨b', off', y, rfl, hb', HY, hc', _⟩ := h'.at_ (k := k) (by omega)
        have hlt' : k < ys.length := by omega
        have i1 : (k : Int) < (xs.length : Int) := by omega
        have i2 : (k : Int) < (ys.length : Int) := by omega
        have i3 : (0 : Int) ≤ (k : Int) := by omega
        by_cases q : x = y
        · have dq : (x != y) = false := by rw [bne_eq_false_iff_eq]; exact q
          have Q := Lib.hid q
          clear q
          go_wp2_with fail
          go_quiet (fail)
          go_wp2_with fail
          go_roundg g
          case measure => omega
          case rel => exact ⟨k + 1, _, by omega, by go_num, by omega, rfl, H.out.trans (by rw [HX.out, HY.out, eqGoS, if_pos Q.out])⟩
        · have dq : (x != y) = true := by rw [bne_iff_ne]; exact q
          have Q := Lib.hid q
          clear q
          go_wp2_with fail
          go_quiet (fail)
          go_wp2_with fail
          go_ret
          exact ⟨ret_bool (by rw [← eqGoS_eq E.out, H.out, HX.out, HY.out, eqGoS, if_neg Q.out]), _, (World.drewN_drewN _ _ _).symm⟩
      · go_wp2_with fail
        go_ret
        have e : xs.drop k = [] := List.drop_of_length_le (by omega)
        exact ⟨ret_bool (by rw [← eqGoS_eq E.out, H.out, e, eqGoS]), _, rfl⟩
  · have d1 : ((xs.length : Int) != (ys.length : Int)) = true := by rw [bne_iff_ne]; omega
    have E := Lib.hid e
    clear e
    go_enter Try.func27, Try.ntmps27
    go_wp2_with fail
    go_ret
    exact ⟨ret_bool (by rw [decide_eq_false (fun e => E.out (by rw [e]))]), 0, rfl⟩


set_option maxHeartbeats 1000000 in
theorem laws_foldsOf (n k : Nat) (w : World) (hn : n ≤ 100) (hk : k ≤ 1000000000000) :
    Calls Try.prog 38 #[.int .i64 n, .int .i64 k] w fun e w' => e = .returned (.string (txt n k)) ∧ w = w' := by
  go_enter Try.func38, Try.ntmps38
  go_wp2_with fail
  go_loop [1, 5, 6] (fun s1 s5 s6 => ∃ (i r : Nat) (t : ByteArray), i ≤ n ∧ s6 = .int .i64 i ∧ s1 = .int .i64 r ∧ s5 = .string t ∧ r ≤ k ∧ t.size ≤ 100 ∧ Hid (t.size = i) ∧ Hid (t = txt i k) ∧ Hid (r = k / 2 ^ i)) (fun _ _ s6 => n - (intOf s6).toNat)
  case atStart => exact ⟨0, k, _, Nat.zero_le _, rfl, rfl, rfl, Nat.le_refl _, by decide, rfl, rfl, by show k = k / 2 ^ 0; simp⟩
  case round =>
    obtain ⟨i, r, t, hi, rfl, rfl, rfl, hr, hts, HT, HE, HR⟩ := hrel
    have hrn : Hid (r / 2 = k / 2 ^ (i + 1)) := by show _ = _; rw [HR.out, Nat.pow_succ, Nat.div_div_eq_div_mul]
    by_cases hlt : i < n
    · have h63 : (1 : Nat) + t.size ≤ 9223372036854775807 := by omega
      by_cases q : r % 2 = 0
      · have d1 : (((r : Int) % 2) == 0) = true := by simp; omega
        have hb : bitL k i = 77 := by unfold bitL; rw [← HR.out, if_pos q]
        have HB := Lib.hid hb
        have b12 : ∀ W, (Op.stringOp .add (ByteArray.mk #[77]) t).run Try.prog W = .ok (.string (ByteArray.mk #[77] ++ t)) W := fun W => run_string_add_sum W _ _ h63
        clear q hb h63
        go_wp2_with fail
        go_round
        case rel => exact ⟨i + 1, r / 2, _, by omega, by go_num, by go_num, rfl, by omega, by rw [ByteArray.size_append]; have := HT.out; show 1 + t.size ≤ 100; omega, by show _ = _; rw [ByteArray.size_append, HT.out]; show 1 + i = i + 1; omega, by show _ = _; rw [HE.out, ← txt_succ, HB.out], hrn⟩
        case measure => simp [intOf]; omega
      · have d1 : (((r : Int) % 2) == 0) = false := by rw [beq_eq_false_iff_ne]; omega
        have hb : bitL k i = 86 := by unfold bitL; rw [← HR.out, if_neg q]
        have HB := Lib.hid hb
        have b12 : ∀ W, (Op.stringOp .add (ByteArray.mk #[86]) t).run Try.prog W = .ok (.string (ByteArray.mk #[86] ++ t)) W := fun W => run_string_add_sum W _ _ h63
        clear q hb h63
        go_wp2_with fail
        go_round
        case rel => exact ⟨i + 1, r / 2, _, by omega, by go_num, by go_num, rfl, by omega, by rw [ByteArray.size_append]; have := HT.out; show 1 + t.size ≤ 100; omega, by show _ = _; rw [ByteArray.size_append, HT.out]; show 1 + i = i + 1; omega, by show _ = _; rw [HE.out, ← txt_succ, HB.out], hrn⟩
        case measure => simp [intOf]; omega
    · obtain rfl : i = n := by omega
      go_wp2_with fail
      go_ret
      exact ⟨by rw [← HE.out]; rfl, rfl⟩

set_option maxHeartbeats 400000 in
theorem laws_power (n : Nat) (w : World) (hn : n ≤ 40) :
    Calls Try.prog 37 #[.int .i64 n] w fun e w' => e = .returned (.int .i64 ((2 ^ n : Nat) : Int)) ∧ w = w' := by
  go_enter Try.func37, Try.ntmps37
  go_wp2_with fail
  go_loop [3, 4] (fun s3 s4 => ∃ (i p : Nat), i ≤ n ∧ s4 = .int .i64 i ∧ s3 = .int .i64 p ∧ p ≤ 1099511627776 ∧ Hid (p = 2 ^ i)) (fun _ s4 => n - (intOf s4).toNat)
  case atStart => exact ⟨0, 1, Nat.zero_le _, rfl, rfl, by omega, rfl⟩
  case round =>
    obtain ⟨i, p, hi, rfl, rfl, hp, HP⟩ := hrel
    by_cases hlt : i < n
    · have hp2 : 2 * p ≤ 1099511627776 := by
        have h1 : 2 * p = 2 ^ (i + 1) := by rw [HP.out, Nat.pow_succ, Nat.mul_comm]
        have h2 : 2 ^ (i + 1) ≤ 2 ^ 40 := Nat.pow_le_pow_right (by omega) (by omega)
        have h3 : 2 ^ 40 = 1099511627776 := by decide
        omega
      go_wp2_with fail
      go_round
      case rel => exact ⟨i + 1, 2 * p, by omega, by go_num, by go_num, hp2, by show _ = _; rw [HP.out, Nat.pow_succ, Nat.mul_comm]⟩
      case measure => simp [intOf]; omega
    · obtain rfl : i = n := by omega
      go_wp2_with fail
      go_ret
      exact ⟨ret_int (by rw [HP.out]; simp), rfl⟩




end Go.Proofs.Ytnccpifdajcejaa
