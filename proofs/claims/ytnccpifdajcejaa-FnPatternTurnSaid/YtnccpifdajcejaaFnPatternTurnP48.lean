/- What turning, reading backwards and exchanging folds do to a vertex that folds; its balance; what a crimp does to sums. No condition but sizes. The laws' own helpers on vertices: a comparison of lists, texts turned and read backwards, powers and texts by rank. No condition but sizes. The laws' own helpers on vertices: a comparison; a copy reads as the vertices that it is of. No condition but sizes. The laws' own helpers that mark a list of integers and ask whether it still holds its marks. No condition but sizes. Copies of vertices whose lists are rows of their own, each another one; marking them. No condition but sizes. A copy of vertices in a row of the call's own, and a vertex of it stored anew. No condition but sizes. -/
import Derived.Test.YtnccpifdajcejaaFnPatternTurnP47
import Derived.Test.YtnccpifdajcejaaFnPatternTurnP46
import Derived.Test.YtnccpifdajcejaaVertB
import Derived.Test.YtnccpifdajcejaaLawA
import Derived.Test.YtnccpifdajcejaaPush
import Derived.Test.YtnccpifdajcejaaPushV
import Derived.Test.YtnccpifdajcejaaSeg
namespace Go.Proofs.Ytnccpifdajcejaa

/-- the sum with alternating signs -/
def altS : List Int → Int
  | [] => 0
  | x :: r => x - altS r
theorem balGo_alt (k : Nat) (s : Int) (xs : List Int) : balGo k s xs = s + (if k % 2 = 0 then altS xs else -altS xs) := by
  induction xs generalizing k s with
  | nil => simp [balGo, altS]
  | cons x r ih =>
    rw [balGo, ih, altS]
    by_cases e : k % 2 = 0
    · rw [if_pos e, if_neg (by omega), if_pos e]; omega
    · rw [if_neg e, if_pos (by omega), if_neg e]; omega
theorem balB_alt (xs : List Int) : balB xs = decide (altS xs = 0) := by
  unfold balB
  rw [balGo_alt]; simp
theorem altS_app (u v : List Int) : altS (u ++ v) = altS u + (if u.length % 2 = 0 then altS v else -altS v) := by
  induction u with
  | nil => simp [altS]
  | cons x r ih =>
    rw [List.cons_append, altS, altS, ih, List.length_cons]
    by_cases e : r.length % 2 = 0
    · rw [if_pos e, if_neg (by omega)]; omega
    · rw [if_neg e, if_pos (by omega)]; omega
theorem altS_turn {u v : List Int} (h : (u ++ v).length % 2 = 0) : altS (v ++ u) = 0 ↔ altS (u ++ v) = 0 := by
  rw [altS_app, altS_app]
  rw [List.length_append] at h
  by_cases e : u.length % 2 = 0
  · rw [if_pos e, if_pos (by omega)]; omega
  · rw [if_neg e, if_neg (by omega)]; omega
theorem altS_rev (xs : List Int) : altS xs.reverse = if xs.length % 2 = 0 then -altS xs else altS xs := by
  induction xs with
  | nil => simp [altS]
  | cons x r ih =>
    rw [List.reverse_cons, altS_app, ih, List.length_reverse, List.length_cons]
    have e1 : altS [x] = x := by simp [altS]
    rw [e1]; simp only [altS]
    by_cases e : r.length % 2 = 0
    · rw [if_pos e, if_pos e, if_neg (by omega)]; omega
    · rw [if_neg e, if_neg e, if_pos (by omega)]; omega
theorem avB_iff (xs : List Int) : avB xs = true ↔ xs.length % 2 = 0 ∧ 2 ≤ xs.length ∧ xs.length ≤ 10 ∧ (∀ x ∈ xs, 1 ≤ x ∧ x ≤ 360) ∧ xs.sum = 360 := by
  constructor
  · exact avB_parts
  · rintro ⟨a, b, c, d, e⟩
    unfold avB
    simp only [Bool.and_eq_true, decide_eq_true_eq, List.all_eq_true]
    exact ⟨⟨⟨⟨a, b⟩, c⟩, d⟩, e⟩
theorem acB_iff (xs : List Int) : acB xs = true ↔ avB xs = true ∧ altS xs = 0 := by
  unfold acB
  rw [Bool.and_eq_true, balB_alt, decide_eq_true_eq]
theorem sum_app (u v : List Int) : (u ++ v).sum = u.sum + v.sum := by
  induction u with
  | nil => simp
  | cons x r ih => rw [List.cons_append, List.sum_cons, ih, List.sum_cons]; omega
theorem sum_rev (u : List Int) : u.reverse.sum = u.sum := by
  induction u with
  | nil => rfl
  | cons x r ih => rw [List.reverse_cons, sum_app, ih, List.sum_cons]; simp; omega
theorem avB_turn {u v : List Int} (h : avB (u ++ v) = true) : avB (v ++ u) = true := by
  rw [avB_iff] at h ⊢
  obtain ⟨a, b, c, d, e⟩ := h
  rw [List.length_append] at a b c
  rw [sum_app] at e
  refine ⟨by rw [List.length_append]; omega, by rw [List.length_append]; omega, by rw [List.length_append]; omega, fun x hx => d x ?_, by rw [sum_app]; omega⟩
  rw [List.mem_append] at hx ⊢
  exact hx.symm
theorem acB_turn {u v : List Int} (h : acB (u ++ v) = true) : acB (v ++ u) = true := by
  rw [acB_iff] at h ⊢
  exact ⟨avB_turn h.1, (altS_turn (avB_parts h.1).1).2 h.2⟩
theorem avB_rev {xs : List Int} (h : avB xs = true) : avB xs.reverse = true := by
  rw [avB_iff] at h ⊢
  obtain ⟨a, b, c, d, e⟩ := h
  exact ⟨by simpa using a, by simpa using b, by simpa using c, fun x hx => d x (by simpa using hx), by rw [sum_rev]; exact e⟩
theorem acB_rev {xs : List Int} (h : acB xs = true) : acB xs.reverse = true := by
  rw [acB_iff] at h ⊢
  refine ⟨avB_rev h.1, ?_⟩
  rw [altS_rev, if_pos (avB_parts h.1).1]; omega
theorem fvB_iff (cs : List UInt8) (n : Int) : fvB cs n = true ↔ (cs.length : Int) = n ∧ ∀ c ∈ cs, mvB c = true := by
  unfold fvB
  simp only [Bool.and_eq_true, decide_eq_true_eq, List.all_eq_true]

/-- a text out of its bytes -/
abbrev bts (cs : List UInt8) : ByteArray := ⟨cs.toArray⟩
theorem bts_list (cs : List UInt8) : (bts cs).data.toList = cs := rfl
theorem bts_of (s : ByteArray) : bts s.data.toList = s := by cases s; rfl

theorem vf_turn' {u v : List Int} {u' v' : List UInt8} (hl : u.length = u'.length) (h : vfB (u ++ v) (bts (u' ++ v')) = true) : vfB (v ++ u) (bts (v' ++ u')) = true := by
  rw [vfB_down] at h ⊢
  obtain ⟨h1, h2, h3⟩ := h
  rw [bts_list] at h2 h3 ⊢
  rw [fvB_iff] at h2 ⊢
  have hl' : v.length = v'.length := by
    have := h2.1
    rw [List.length_append, List.length_append] at this; omega
  refine ⟨acB_turn h1, ⟨by rw [List.length_append, List.length_append]; omega, fun c hc => h2.2 c ?_⟩, ?_⟩
  · rw [List.mem_append] at hc ⊢; exact hc.symm
  · rw [wl_app hl] at h3
    rw [wl_app hl']
    exact h3.rot (rot_mk _ _)
theorem vf_turn {u v : List Int} {u' v' : List UInt8} (hl : u.length = u'.length) (hl' : v.length = v'.length) : vfB (v ++ u) (bts (v' ++ u')) = vfB (u ++ v) (bts (u' ++ v')) := by
  rw [Bool.eq_iff_iff]
  exact ⟨vf_turn' hl', vf_turn' hl⟩

/-- read backwards, the first letter first -/
def mirr : List UInt8 → List UInt8
  | [] => []
  | c :: r => c :: r.reverse
theorem wl_rev {xs : List Int} {cs : List UInt8} (h : xs.length = cs.length) : Rot (wl xs cs).reverse (wl xs.reverse (mirr cs)) := by
  cases cs with
  | nil =>
    have : xs = [] := List.eq_nil_of_length_eq_zero (by simpa using h)
    subst this
    exact Rot.refl _
  | cons c r =>
    -- the word backwards, its last letter taken to the front
    have key : ∀ (ys : List Int) (ds : List UInt8) (e : UInt8), ys.length = ds.length + 1 → ∃ t, (wl ys (e :: ds)).reverse = t ++ [Ltr.F e.toNat] ∧ wl ys.reverse (e :: ds.reverse) = [Ltr.F e.toNat] ++ t := by
      intro ys
      induction ys with
      | nil => intro ds e h; simp at h
      | cons y ys ih =>
        intro ds e h
        cases ds with
        | nil =>
          have : ys = [] := List.eq_nil_of_length_eq_zero (by simpa using h)
          subst this
          exact ⟨[Ltr.X y], by simp [wl], by simp [wl]⟩
        | cons d ds =>
          obtain ⟨t, e1, e2⟩ := ih ds d (by simpa using h)
          refine ⟨t ++ [Ltr.F d.toNat, Ltr.X y], ?_, ?_⟩
          · rw [wl, List.reverse_cons, List.reverse_cons, e1]; simp
          · rw [List.reverse_cons, List.reverse_cons]
            have hl : ys.reverse.length = (e :: ds.reverse).length := by simpa using h
            rw [show e :: (ds.reverse ++ [d]) = (e :: ds.reverse) ++ [d] from rfl, wl_app hl]
            have e3 : wl ys.reverse (e :: ds.reverse) = [Ltr.F e.toNat] ++ t := by
              cases hys : ys.reverse with
              | nil => rw [hys] at hl; simp at hl
              | cons z zs =>
                rw [hys] at e2
                simp only [wl, List.cons_append, List.nil_append, List.cons.injEq] at e2 ⊢
                exact ⟨trivial, e2.2⟩
            rw [e3]; simp [wl]
    obtain ⟨t, e1, e2⟩ := key xs r c (by simpa using h)
    rw [e1, mirr, e2]
    exact rot_mk _ _
theorem vf_rev {xs : List Int} {cs : List UInt8} (h : vfB xs (bts cs) = true) : vfB xs.reverse (bts (mirr cs)) = true := by
  rw [vfB_down] at h ⊢
  obtain ⟨h1, h2, h3⟩ := h
  rw [bts_list] at h2 h3 ⊢
  rw [fvB_iff] at h2 ⊢
  have hl : xs.length = cs.length := by have := h2.1; omega
  refine ⟨acB_rev h1, ⟨?_, fun c hc => h2.2 c ?_⟩, h3.rev.rot (wl_rev hl)⟩
  · rw [List.length_reverse, hl]
    cases cs <;> simp [mirr]
  · cases cs with
    | nil => exact hc
    | cons d r => simpa [mirr] using hc

/-- a letter exchanged -/
def swB (c : UInt8) : UInt8 := if c = 77 then 86 else if c = 86 then 77 else c
theorem swB_nat (c : UInt8) : (swB c).toNat = swF c.toNat := by
  unfold swB swF
  by_cases h1 : c = 77
  · rw [h1]; rfl
  · by_cases h2 : c = 86
    · rw [h2]; rfl
    · rw [if_neg h1, if_neg h2, if_neg (fun e => h1 (UInt8.toNat_inj.1 (by rw [e]; rfl))), if_neg (fun e => h2 (UInt8.toNat_inj.1 (by rw [e]; rfl)))]
theorem swB_mv {c : UInt8} (h : mvB c = true) : mvB (swB c) = true := by
  unfold swB
  by_cases h1 : c = 77
  · rw [if_pos h1]; rfl
  · by_cases h2 : c = 86
    · rw [if_neg h1, if_pos h2]; rfl
    · rw [if_neg h1, if_neg h2]; exact h
theorem swB_swB (c : UInt8) : swB (swB c) = c := by
  unfold swB
  by_cases h1 : c = 77
  · rw [h1]; rfl
  · by_cases h2 : c = 86
    · rw [h2]; rfl
    · simp [h1, h2]
theorem wl_swap (xs : List Int) (cs : List UInt8) : wl xs (cs.map swB) = (wl xs cs).map swL := by
  induction xs generalizing cs with
  | nil => simp [wl]
  | cons x r ih =>
    cases cs with
    | nil => simp [wl]
    | cons c t => simp [wl, swL, ih, swB_nat]
/-- a text with all letters exchanged -/
def swT (s : ByteArray) : ByteArray := bts (s.data.toList.map swB)
theorem swT_size (s : ByteArray) : (swT s).size = s.size := by
  show (List.toArray _).size = _
  rw [List.size_toArray, List.length_map]; exact size_list s
theorem vf_swap' {xs : List Int} {cs : List UInt8} (h : vfB xs (bts cs) = true) : vfB xs (bts (cs.map swB)) = true := by
  rw [vfB_down] at h ⊢
  obtain ⟨h1, h2, h3⟩ := h
  rw [bts_list] at h2 h3 ⊢
  rw [fvB_iff] at h2 ⊢
  refine ⟨h1, ⟨by simpa using h2.1, fun c hc => ?_⟩, by rw [wl_swap]; exact h3.swap⟩
  obtain ⟨d, hd, rfl⟩ := List.mem_map.1 hc
  exact swB_mv (h2.2 d hd)
theorem swB_map (cs : List UInt8) : (cs.map swB).map swB = cs := by
  rw [List.map_map]
  conv => rhs; rw [← List.map_id cs]
  exact List.map_congr_left fun c _ => swB_swB c
theorem vf_swap (xs : List Int) (cs : List UInt8) : vfB xs (bts (cs.map swB)) = vfB xs (bts cs) := by
  rw [Bool.eq_iff_iff]
  exact ⟨fun h => by have := vf_swap' h; rwa [swB_map] at this, vf_swap'⟩

/-- mountains less valleys of a text -/
def balT : List UInt8 → Int
  | [] => 0
  | c :: r => (if c = 77 then 1 else if c = 86 then -1 else 0) + balT r
theorem mvS_wl {xs : List Int} {cs : List UInt8} (h : xs.length = cs.length) : mvS (wl xs cs) = balT cs := by
  induction xs generalizing cs with
  | nil =>
    cases cs with
    | nil => rfl
    | cons c r => simp at h
  | cons x r ih =>
    cases cs with
    | nil => simp at h
    | cons c t =>
      rw [wl, mvS, mvS, balT, ih (by simpa using h)]
      have e1 : (c.toNat = 77) ↔ c = 77 := ⟨fun e => UInt8.toNat_inj.1 (by rw [e]; rfl), fun e => by rw [e]; rfl⟩
      have e2 : (c.toNat = 86) ↔ c = 86 := ⟨fun e => UInt8.toNat_inj.1 (by rw [e]; rfl), fun e => by rw [e]; rfl⟩
      simp only [e1, e2]
theorem wl_bin {xs : List Int} {cs : List UInt8} (h : ∀ c ∈ cs, mvB c = true) : Bin (wl xs cs) := by
  induction xs generalizing cs with
  | nil => intro f hf; simp [wl] at hf
  | cons x r ih =>
    cases cs with
    | nil => intro f hf; simp [wl] at hf
    | cons c t =>
      intro f hf
      simp [wl] at hf
      rcases hf with rfl | hf
      · have := h c (by simp)
        unfold mvB at this
        simpa using this
      · exact ih (fun c hc => h c (by simp [hc])) f hf
theorem vf_bal {xs : List Int} {cs : List UInt8} (h : vfB xs (bts cs) = true) : balT cs = 2 ∨ balT cs = -2 := by
  rw [vfB_down] at h
  obtain ⟨h1, h2, h3⟩ := h
  rw [bts_list] at h2 h3
  rw [fvB_iff] at h2
  rw [← mvS_wl (xs := xs) (by have := h2.1; omega)]
  exact h3.mvS (wl_bin h2.2)

/-- the angles of a word -/
def xsOf : List Ltr → List Int
  | [] => []
  | .F _ :: r => xsOf r
  | .X x :: r => x :: xsOf r
theorem xsOf_app (u v : List Ltr) : xsOf (u ++ v) = xsOf u ++ xsOf v := by
  induction u with
  | nil => rfl
  | cons y r ih => cases y <;> simp [xsOf, ih]
theorem xsOf_wl {xs : List Int} {cs : List UInt8} (h : xs.length = cs.length) : xsOf (wl xs cs) = xs := by
  induction xs generalizing cs with
  | nil => cases cs <;> rfl
  | cons x r ih =>
    cases cs with
    | nil => simp at h
    | cons c t => simp [wl, xsOf, ih (show r.length = t.length by simpa using h)]
theorem Rot.sum {l m : List Ltr} (h : Rot l m) : (xsOf l).sum = (xsOf m).sum := by
  obtain ⟨u, v, rfl, rfl⟩ := h
  rw [xsOf_app, xsOf_app, sum_app, sum_app]; omega
theorem Rot.xlen {l m : List Ltr} (h : Rot l m) : (xsOf l).length = (xsOf m).length := by
  obtain ⟨u, v, rfl, rfl⟩ := h
  rw [xsOf_app, xsOf_app, List.length_append, List.length_append]; omega
theorem Rot.alt {l m : List Ltr} (h : Rot l m) (he : (xsOf l).length % 2 = 0) : altS (xsOf l) = 0 ↔ altS (xsOf m) = 0 := by
  obtain ⟨u, v, rfl, rfl⟩ := h
  rw [xsOf_app] at he ⊢
  rw [xsOf_app]
  exact (altS_turn he).symm
theorem Step.alt {l m : List Ltr} (h : Step l m) (he : (xsOf l).length % 2 = 0) : (altS (xsOf l) = 0 ↔ altS (xsOf m) = 0) ∧ (xsOf m).length % 2 = 0 := by
  obtain ⟨a, g, b, hh, c, rest, r1, r2, hne, hmin, hlen⟩ := h
  have l1 := r1.xlen
  have l2 := r2.xlen
  simp only [xsOf, List.length_cons] at l1 l2
  refine ⟨?_, by omega⟩
  rw [r1.alt he, ← r2.alt (by simp only [xsOf, List.length_cons]; omega)]
  simp only [xsOf, altS]
  rw [show a - (b - (c - altS (xsOf rest))) = a + c - b - altS (xsOf rest) from by omega]
theorem Step.sums {l m : List Ltr} (h : Step l m) : ∃ b, Ltr.X b ∈ l ∧ (∀ x, Ltr.X x ∈ l → b ≤ x) ∧ (∀ x, Ltr.X x ∈ m → b ≤ x) ∧ (xsOf l).sum = (xsOf m).sum + 2 * b := by
  obtain ⟨a, g, b, hh, c, rest, r1, r2, hne, hmin, hlen⟩ := h
  refine ⟨b, (r1.mem _).2 (by simp), hmin, ?_, ?_⟩
  · intro x hx
    have := (r2.mem _).2 hx
    simp at this
    rcases this with e | e
    · have h1 := hmin a ((r1.mem _).2 (by simp))
      have h2 := hmin c ((r1.mem _).2 (by simp))
      omega
    · exact hmin x ((r1.mem _).2 (by simp [e]))
  · rw [r1.sum, ← r2.sum]
    simp only [xsOf, List.sum_cons]
    omega
end Go.Proofs.Ytnccpifdajcejaa
namespace Go.Proofs.Ytnccpifdajcejaa
open Go.RowKit

def eqGoS : List Int → List Int → Bool
  | [], _ => true
  | x :: r, y :: r' => if x = y then eqGoS r r' else false
  | _ :: _, [] => true
theorem eqGoS_eq {xs ys : List Int} (h : xs.length = ys.length) : eqGoS xs ys = decide (xs = ys) := by
  induction xs generalizing ys with
  | nil => cases ys with
    | nil => rfl
    | cons y r => simp at h
  | cons x r ih =>
    cases ys with
    | nil => simp at h
    | cons y r' =>
      rw [eqGoS, ih (by simpa using h)]
      by_cases e : x = y
      · simp [e]
      · simp [e]

set_option maxHeartbeats 1000000 in
theorem laws_sameInts (A A' : Option Addr) (cap cap' : Nat) (xs ys : List Int) (w : World) (h : Ints w A xs) (h' : Ints w A' ys) (hl : xs.length ≤ maxLen) (_hl' : ys.length ≤ maxLen) :
    Calls Try.prog 27 #[.slice A xs.length cap, .slice A' ys.length cap'] w fun e w' => e = .returned (.bool (decide (xs = ys))) ∧ ∃ m, w.drewN m = w' := by
  unfold maxLen at hl
  by_cases e : xs.length = ys.length
  · have d1 : ((xs.length : Int) != (ys.length : Int)) = false := by rw [bne_eq_false_iff_eq]; omega
    have hys : ys.length ≤ xs.length ∧ xs.length ≤ ys.length := by omega
    have E := Lib.hid e
    clear e
    go_enter Try.func27, Try.ntmps27
    go_wp2_with fail
    go_loopg [5] (xs.length + 1) (fun g i wr => ∃ (k m : Nat), k ≤ xs.length ∧ i = .int .i64 k ∧ xs.length - k < g ∧ w.drewN m = wr ∧ Hid (eqGoS xs ys = eqGoS (xs.drop k) (ys.drop k)))
    case atStart => exact ⟨0, 0, Nat.zero_le _, rfl, by omega, rfl, rfl⟩
    case round =>
      obtain ⟨k, m, hk, rfl, hg, rfl, H⟩ := hrel
      cases gk with
      | zero => omega
      | succ g =>
      by_cases hlt : k < xs.length
      · obtain ⟨b, off, x, rfl, hb, HX, hc, _⟩ := h.at_ hlt
        obtain ⟨b', off', y, rfl, hb', HY, hc', _⟩ := h'.at_ (k := k) (by omega)
        have hlt' : k < ys.length := by omega
        have i1 : (k : Int) < (xs.length : Int) := by omega
        have i2 : (k : Int) < (ys.length : Int) := by omega
        have i3 : (0 : Int) ≤ (k : Int) := by omega
        by_cases q : x = y
        · have dq : (x != y) = false := by rw [bne_eq_false_iff_eq]; exact q
          have Q := Lib.hid q
          clear q
          go_wp2_with fail
          go_quiet (fail)
          go_wp2_with fail
          go_roundg g
          case measure => omega
          case rel => exact ⟨k + 1, _, by omega, by go_num, by omega, rfl, H.out.trans (by rw [HX.out, HY.out, eqGoS, if_pos Q.out])⟩
        · have dq : (x != y) = true := by rw [bne_iff_ne]; exact q
          have Q := Lib.hid q
          clear q
          go_wp2_with fail
          go_quiet (fail)
          go_wp2_with fail
          go_ret
          exact ⟨ret_bool (by rw [← eqGoS_eq E.out, H.out, HX.out, HY.out, eqGoS, if_neg Q.out]), _, (World.drewN_drewN _ _ _).symm⟩
      · go_wp2_with fail
        go_ret
        have e : xs.drop k = [] := List.drop_of_length_le (by omega)
        exact ⟨ret_bool (by rw [← eqGoS_eq E.out, H.out, e, eqGoS]), _, rfl⟩
  · have d1 : ((xs.length : Int) != (ys.length : Int)) = true := by rw [bne_iff_ne]; omega
    have E := Lib.hid e
    clear e
    go_enter Try.func27, Try.ntmps27
    go_wp2_with fail
    go_ret
    exact ⟨ret_bool (by rw [decide_eq_false (fun e => E.out (by rw [e]))]), 0, rfl⟩


set_option maxHeartbeats 1000000 in
theorem laws_foldsOf (n k : Nat) (w : World) (hn : n ≤ 100) (hk : k ≤ 1000000000000) :
    Calls Try.prog 38 #[.int .i64 n, .int .i64 k] w fun e w' => e = .returned (.string (txt n k)) ∧ w = w' := by
  go_enter Try.func38, Try.ntmps38
  go_wp2_with fail
  go_loop [1, 5, 6] (fun s1 s5 s6 => ∃ (i r : Nat) (t : ByteArray), i ≤ n ∧ s6 = .int .i64 i ∧ s1 = .int .i64 r ∧ s5 = .string t ∧ r ≤ k ∧ t.size ≤ 100 ∧ Hid (t.size = i) ∧ Hid (t = txt i k) ∧ Hid (r = k / 2 ^ i)) (fun _ _ s6 => n - (intOf s6).toNat)
  case atStart => exact ⟨0, k, _, Nat.zero_le _, rfl, rfl, rfl, Nat.le_refl _, by decide, rfl, rfl, by show k = k / 2 ^ 0; simp⟩
  case round =>
    obtain ⟨i, r, t, hi, rfl, rfl, rfl, hr, hts, HT, HE, HR⟩ := hrel
    have hrn : Hid (r / 2 = k / 2 ^ (i + 1)) := by show _ = _; rw [HR.out, Nat.pow_succ, Nat.div_div_eq_div_mul]
    by_cases hlt : i < n
    · have h63 : (1 : Nat) + t.size ≤ 9223372036854775807 := by omega
      by_cases q : r % 2 = 0
      · have d1 : (((r : Int) % 2) == 0) = true := by simp; omega
        have hb : bitL k i = 77 := by unfold bitL; rw [← HR.out, if_pos q]
        have HB := Lib.hid hb
        have b12 : ∀ W, (Op.stringOp .add (ByteArray.mk #[77]) t).run Try.prog W = .ok (.string (ByteArray.mk #[77] ++ t)) W := fun W => run_string_add_sum W _ _ h63
        clear q hb h63
        go_wp2_with fail
        go_round
        case rel => exact ⟨i + 1, r / 2, _, by omega, by go_num, by go_num, rfl, by omega, by rw [ByteArray.size_append]; have := HT.out; show 1 + t.size ≤ 100; omega, by show _ = _; rw [ByteArray.size_append, HT.out]; show 1 + i = i + 1; omega, by show _ = _; rw [HE.out, ← txt_succ, HB.out], hrn⟩
        case measure => simp [intOf]; omega
      · have d1 : (((r : Int) % 2) == 0) = false := by rw [beq_eq_false_iff_ne]; omega
        have hb : bitL k i = 86 := by unfold bitL; rw [← HR.out, if_neg q]
        have HB := Lib.hid hb
        have b12 : ∀ W, (Op.stringOp .add (ByteArray.mk #[86]) t).run Try.prog W = .ok (.string (ByteArray.mk #[86] ++ t)) W := fun W => run_string_add_sum W _ _ h63
        clear q hb h63
        go_wp2_with fail
        go_round
        case rel => exact ⟨i + 1, r / 2, _, by omega, by go_num, by go_num, rfl, by omega, by rw [ByteArray.size_append]; have := HT.out; show 1 + t.size ≤ 100; omega, by show _ = _; rw [ByteArray.size_append, HT.out]; show 1 + i = i + 1; omega, by show _ = _; rw [HE.out, ← txt_succ, HB.out], hrn⟩
        case measure => simp [intOf]; omega
    · obtain rfl : i = n := by omega
      go_wp2_with fail
      go_ret
      exact ⟨by rw [← HE.out]; rfl, rfl⟩

set_option maxHeartbeats 400000 in
theorem laws_power (n : Nat) (w : World) (hn : n ≤ 40) :
    Calls Try.prog 37 #[.int .i64 n] w fun e w' => e = .returned (.int .i64 ((2 ^ n : Nat) : Int)) ∧ w = w' := by
  go_enter Try.func37, Try.ntmps37
  go_wp2_with fail
  go_loop [3, 4] (fun s3 s4 => ∃ (i p : Nat), i ≤ n ∧ s4 = .int .i64 i ∧ s3 = .int .i64 p ∧ p ≤ 1099511627776 ∧ Hid (p = 2 ^ i)) (fun _ s4 => n - (intOf s4).toNat)
  case atStart => exact ⟨0, 1, Nat.zero_le _, rfl, rfl, by omega, rfl⟩
  case round =>
    obtain ⟨i, p, hi, rfl, rfl, hp, HP⟩ := hrel
    by_cases hlt : i < n
    · have hp2 : 2 * p ≤ 1099511627776 := by
        have h1 : 2 * p = 2 ^ (i + 1) := by rw [HP.out, Nat.pow_succ, Nat.mul_comm]
        have h2 : 2 ^ (i + 1) ≤ 2 ^ 40 := Nat.pow_le_pow_right (by omega) (by omega)
        have h3 : 2 ^ 40 = 1099511627776 := by decide
        omega
      go_wp2_with fail
      go_round
      case rel => exact ⟨i + 1, 2 * p, by omega, by go_num, by go_num, hp2, by show _ = _; rw [HP.out, Nat.pow_succ, Nat.mul_comm]⟩
      case measure => simp [intOf]; omega
    · obtain rfl : i = n := by omega
      go_wp2_with fail
      go_ret
      exact ⟨ret_int (by rw [HP.out]; simp), rfl⟩




end Go.Proofs.Ytnccpifdajcejaa
namespace Go.Proofs.Ytnccpifdajcejaa
open Go.RowKit

theorem RowV.verts {w : World} {B g : Nat} {vs : List Vx} {L : List Value} (h : RowV w B g vs.length L) (ht : RowTo w g vs L vs.length) : Verts w (some ⟨g, 0, none⟩) vs := by
  intro hn
  refine ⟨g, 0, rfl, (h.lt _ rfl).2, fun k v hk => ?_⟩
  have hkl : k < vs.length := (List.getElem?_eq_some_iff.1 hk).1
  obtain ⟨U, V, e1, e2, e3, e4⟩ := ht k v hkl hk
  refine ⟨U, V, ?_, ?_, e3.intsV, e4.intsV⟩
  · rw [Nat.zero_add, h.cellAt (k * 2) (by omega), e1]
  · rw [Nat.zero_add, h.cellAt (k * 2 + 1) (by omega), e2]


end Go.Proofs.Ytnccpifdajcejaa
namespace Go.Proofs.Ytnccpifdajcejaa
open Go.RowKit

/-- the numbers from k on, n of them -/
def countFrom (k : Int) (n : Nat) : List Int := (List.range n).map fun (i : Nat) => k + (i : Int)
theorem countFrom_len (k : Int) (n : Nat) : (countFrom k n).length = n := by simp [countFrom]
theorem countFrom_get (k : Int) (n i : Nat) (h : i < n) : (countFrom k n)[i]? = some (k + (i : Int)) := by
  simp [countFrom, h]

theorem mark_step {xs : List Int} {k : Int} {j : Nat} (h : j < xs.length) :
    ((countFrom k j ++ xs.drop j).map (Value.int .i64)).set j (.int .i64 (k + (j : Int))) = (countFrom k (j + 1) ++ xs.drop (j + 1)).map (Value.int .i64) := by
  rw [← List.map_set]
  congr 1
  rw [List.set_append_right _ _ (by rw [countFrom_len]; exact Nat.le_refl _), countFrom_len, Nat.sub_self, List.drop_eq_getElem_cons h, List.set_cons_zero]
  simp [countFrom, List.range_succ]

end Go.Proofs.Ytnccpifdajcejaa
namespace Go.Proofs.Ytnccpifdajcejaa
open Go.RowKit

theorem size_set' (w : World) (p : Addr) (v : Value) : (w.setCell p v).heap.size = w.heap.size := by simp
theorem own_below2 {w w' : World} {B : Nat} {e : TypeId} {z n : Nat} {v : Value} {xs : List Value} (h : w.ownsRow B e z v n xs) (hb : Below w.heap.size w w') : w'.ownsRow B e z v n xs :=
  h.kept (row := none) ⟨hb.os, hb.tape, hb.output, hb.size, fun i hi _ => hb.block i hi⟩ (by cases hv : v.ownBlock <;> simp)
/-- the first k vertices lie in the row's cells L, each list a row of its own below H -/
def RowOw (w : World) (g H : Nat) (vs : List Vx) (L : List Value) (k : Nat) : Prop :=
  (∀ i v, i < k → vs[i]? = some v → ∃ U V, L[i * 2]? = some U ∧ L[i * 2 + 1]? = some V ∧ Own w (g + 1) U v.1 ∧ Own w (g + 1) V v.2) ∧
  (∀ i j U V, i < j → j < k * 2 → L[i]? = some U → L[j]? = some V → V.ownBlock = none ∨ V.ownBlock ≠ U.ownBlock) ∧
  (∀ i U q, i < k * 2 → L[i]? = some U → U.ownBlock = some q → q < H)
theorem RowOw.zero (w : World) (g H : Nat) (vs : List Vx) (L : List Value) : RowOw w g H vs L 0 := ⟨fun i v hi => by omega, fun i j U V _ hj => by omega, fun i U q hi => by omega⟩
theorem RowOw.below {w w' : World} {g H : Nat} {vs : List Vx} {L : List Value} {k : Nat} (h : RowOw w g H vs L k) (hb : Below w.heap.size w w') : RowOw w' g H vs L k := by
  refine ⟨fun i v hi hv => ?_, h.2.1, h.2.2⟩
  obtain ⟨U, V, e1, e2, e3, e4⟩ := h.1 i v hi hv
  exact ⟨U, V, e1, e2, own_below2 e3 hb, own_below2 e4 hb⟩
theorem RowOw.far {w : World} {g H : Nat} {vs : List Vx} {L : List Value} {k : Nat} (h : RowOw w g H vs L k) {i : Nat} {u : Value} : RowOw (w.setCell ⟨g, i, none⟩ u) g H vs L k := by
  refine ⟨fun i v hi hv => ?_, h.2.1, h.2.2⟩
  obtain ⟨U, V, e1, e2, e3, e4⟩ := h.1 i v hi hv
  exact ⟨U, V, e1, e2, own_far e3 (by omega) _ _, own_far e4 (by omega) _ _⟩
theorem RowOw.rowTo {w : World} {g H : Nat} {vs : List Vx} {L : List Value} {k : Nat} (h : RowOw w g H vs L k) : RowTo w g vs L k := by
  intro i v hi hv
  obtain ⟨U, V, e1, e2, e3, e4⟩ := h.1 i v hi hv
  exact ⟨U, V, e1, e2, IntsA.of_own e3 (by omega), IntsA.of_own e4 (by omega)⟩
theorem RowOw.next {w : World} {g H : Nat} {vs : List Vx} {L : List Value} {k : Nat} (h : RowOw w g H vs L k) {xs cs : List Int} {U V : Value} (hL : k * 2 + 1 < L.length) (hk : vs[k]? = some (xs, cs)) (hU : Own w H U xs) (hV : Own w H V cs) (hUV : U.ownBlock = none ∨ U.ownBlock ≠ V.ownBlock) (hg : g < H) (hH : H ≤ w.heap.size) :
    RowOw w g w.heap.size vs ((L.set (k * 2) U).set (k * 2 + 1) V) (k + 1) := by
  obtain ⟨h1, h2, h3⟩ := h
  have get : ∀ i X, i < (k + 1) * 2 → ((L.set (k * 2) U).set (k * 2 + 1) V)[i]? = some X → (i < k * 2 ∧ L[i]? = some X) ∨ (i = k * 2 ∧ X = U) ∨ (i = k * 2 + 1 ∧ X = V) := by
    intro i X hi hX
    by_cases e1 : i = k * 2 + 1
    · subst e1
      rw [List.getElem?_set_self (by rw [List.length_set]; omega)] at hX
      exact Or.inr (Or.inr ⟨rfl, (Option.some.inj hX).symm⟩)
    · rw [List.getElem?_set_ne (by omega)] at hX
      by_cases e2 : i = k * 2
      · subst e2
        rw [List.getElem?_set_self (by omega)] at hX
        exact Or.inr (Or.inl ⟨rfl, (Option.some.inj hX).symm⟩)
      · rw [List.getElem?_set_ne (by omega)] at hX
        exact Or.inl ⟨by omega, hX⟩
  refine ⟨fun i v hi hv => ?_, fun i j X Y hij hj hX hY => ?_, fun i X q hi hX hq => ?_⟩
  · by_cases e : i = k
    · subst e
      rw [hk] at hv
      have hv2 := Option.some.inj hv
      subst hv2
      refine ⟨U, V, ?_, ?_, own_lower' hU (by omega), own_lower' hV (by omega)⟩
      · rw [List.getElem?_set_ne (by omega), List.getElem?_set_self (by omega)]
      · rw [List.getElem?_set_self (by rw [List.length_set]; omega)]
    · obtain ⟨X, Y, e1, e2, e3, e4⟩ := h1 i v (by omega) hv
      refine ⟨X, Y, ?_, ?_, e3, e4⟩
      · rw [List.getElem?_set_ne (by omega), List.getElem?_set_ne (by omega)]; exact e1
      · rw [List.getElem?_set_ne (by omega), List.getElem?_set_ne (by omega)]; exact e2
  · have low : ∀ i X, i < k * 2 → L[i]? = some X → ∀ Z : Value, (∀ q, Z.ownBlock = some q → H ≤ q) → Z.ownBlock = none ∨ Z.ownBlock ≠ X.ownBlock := by
      intro i X hi hX Z hZ
      cases hz : Z.ownBlock with
      | none => exact Or.inl rfl
      | some q =>
        right
        intro e
        have a1 := hZ q hz
        have a2 := h3 i X q hi hX e.symm
        omega
    rcases get i X (by omega) hX with ⟨a1, a2⟩ | ⟨a1, a2⟩ | ⟨a1, a2⟩ <;> rcases get j Y hj hY with ⟨b1, b2⟩ | ⟨b1, b2⟩ | ⟨b1, b2⟩
    · exact h2 i j X Y hij b1 a2 b2
    · subst b2; exact low i X a1 a2 _ (fun q hq => (hU.lt q hq).1)
    · subst b2; exact low i X a1 a2 _ (fun q hq => (hV.lt q hq).1)
    · omega
    · omega
    · subst a2 b2
      rcases hUV with e | e
      · cases hy : Y.ownBlock with
        | none => exact Or.inl rfl
        | some q => right; rw [e]; simp
      · exact Or.inr (fun e2 => e e2.symm)
    · omega
    · omega
    · omega
  · rcases get i X hi hX with ⟨a1, a2⟩ | ⟨a1, a2⟩ | ⟨a1, a2⟩
    · have := h3 i X q a1 a2 hq; omega
    · subst a2; exact (hU.lt q hq).2
    · subst a2; exact (hV.lt q hq).2


end Go.Proofs.Ytnccpifdajcejaa
namespace Go.Proofs.Ytnccpifdajcejaa
open Go.RowKit

/-- the row g holds the n vertices vs, their lists lie elsewhere -/
structure CopyV (w : World) (B g cap : Nat) (vs : List Vx) (L : List Value) (n : Nat) : Prop where
  own : OwnX w B (.slice (some ⟨g, 0, none⟩) n cap) n L
  cel : VCell w (some g) vs L
  len : vs.length = n
theorem CopyV.below {w w' : World} {B g cap n : Nat} {vs : List Vx} {L : List Value} (h : CopyV w B g cap vs L n) (hb : Below w.heap.size w w') : CopyV w' B g cap vs L n := ⟨own_below2' h.own hb, h.cel.below hb, h.len⟩
theorem CopyV.verts {w : World} {B g cap n : Nat} {vs : List Vx} {L : List Value} (h : CopyV w B g cap vs L n) : Verts w (some ⟨g, 0, none⟩) vs := h.cel.verts h.own h.len
theorem CopyV.lt {w : World} {B g cap n : Nat} {vs : List Vx} {L : List Value} (h : CopyV w B g cap vs L n) : B ≤ g ∧ g < w.heap.size := h.own.lt g rfl
/-- an appended row is a copy -/
theorem copy_made {w w' : World} {v : Value} {q : Option Nat} {vs : List Vx} {L : List Value} {n : Nat} (ho : OwnX w' w.heap.size v n L) (hv : VCell w q vs L) (hn : vs.length = n) (h1 : 1 ≤ n) (hb : Below w.heap.size w w') :
    ∃ g cap, v = .slice (some ⟨g, 0, none⟩) n cap ∧ n ≤ cap ∧ cap ≤ maxLen ∧ CopyV w' w.heap.size g cap vs L n := by
  have hq : ∀ q, v.ownBlock = some q → w.heap.size ≤ q := fun q hq => (ho.lt q hq).1
  have hc : VCell w' v.ownBlock vs L := hv.imp fun V xs hi => IntsF.of_old hi.intsV hb hq
  rcases ho.2 with ⟨_, h0⟩ | ⟨g, cap, cur, e, _, _, hnc, hcm, _, _⟩
  · omega
  · subst e
    exact ⟨g, cap, rfl, hnc, hcm, ho, hc, hn⟩
/-- the fields of a vertex of the copy -/
theorem CopyV.at_ {w : World} {B g cap n : Nat} {vs : List Vx} {L : List Value} (h : CopyV w B g cap vs L n) {k : Nat} (hk : k < vs.length) :
    ∃ A1 c1 A2 c2, w.cell? ⟨g, k * 2, none⟩ = some (.slice A1 vs[k].1.length c1) ∧ w.cell? ⟨g, k * 2 + 1, none⟩ = some (.slice A2 vs[k].2.length c2) ∧
      IntsF w (some g) (.slice A1 vs[k].1.length c1) vs[k].1 ∧ IntsF w (some g) (.slice A2 vs[k].2.length c2) vs[k].2 ∧ Ints w A2 vs[k].2 ∧ Ints w A1 vs[k].1 ∧ w.frozen? ⟨g, k * 2, none⟩ = false ∧ w.frozen? ⟨g, k * 2 + 1, none⟩ = false := by
  obtain ⟨U, V, e1, e2, i1, i2⟩ := h.cel.2 k vs[k] (List.getElem?_eq_getElem hk)
  have r1 := h.own.cellAt (k * 2) (by have := h.len; omega)
  have r2 := h.own.cellAt (k * 2 + 1) (by have := h.len; omega)
  rw [e1] at r1
  rw [e2] at r2
  obtain ⟨A1, c1, eU, hI1, _, _⟩ := i1.intsV
  obtain ⟨A2, c2, eV, hI2, _, _⟩ := i2.intsV
  subst eU eV
  exact ⟨A1, c1, A2, c2, r1, r2, i1, i2, hI2, hI1, h.own.frozenAt _, h.own.frozenAt _⟩
/-- a vertex stored anew -/
theorem CopyV.store {w : World} {B g cap n : Nat} {vs : List Vx} {L : List Value} (h : CopyV w B g cap vs L n) {k : Nat} (hk : k < vs.length) {U V : Value} {xs cs : List Int} (hU : IntsF w (some g) U xs) (hV : IntsF w (some g) V cs) :
    CopyV ((w.setCell ⟨g, k * 2, none⟩ U).setCell ⟨g, k * 2 + 1, none⟩ V) B g cap (vs.set k (xs, cs)) ((L.set (k * 2) U).set (k * 2 + 1) V) n ∧ Below B w ((w.setCell ⟨g, k * 2, none⟩ U).setCell ⟨g, k * 2 + 1, none⟩ V) := by
  have st1 := h.own.stored (k * 2) U
  have st2 := st1.1.stored (k * 2 + 1) V
  have gr : ∀ X ys, IntsF w (some g) X ys → IntsF ((w.setCell ⟨g, k * 2, none⟩ U).setCell ⟨g, k * 2 + 1, none⟩ V) (some g) X ys := fun X ys hi => (hi.grown st1.2).grown st2.2
  have hB := h.lt.1
  have hL : L.length = vs.length * 2 := h.cel.1
  refine ⟨⟨st2.1, ⟨by simp [hL], fun j v hj => ?_⟩, by rw [List.length_set]; exact h.len⟩, (below_set w (k * 2) U hB).trans (below_set _ (k * 2 + 1) V hB)⟩
  by_cases e : j = k
  · subst e
    rw [List.getElem?_set_self hk] at hj
    cases hj
    refine ⟨U, V, ?_, ?_, gr _ _ hU, gr _ _ hV⟩
    · rw [List.getElem?_set_ne (by omega), List.getElem?_set_self (by omega)]
    · rw [List.getElem?_set_self (by rw [List.length_set]; omega)]
  · rw [List.getElem?_set_ne (by omega)] at hj
    obtain ⟨X, Y, e1, e2, i1, i2⟩ := h.cel.2 j v hj
    refine ⟨X, Y, ?_, ?_, gr _ _ i1, gr _ _ i2⟩
    · rw [List.getElem?_set_ne (by omega), List.getElem?_set_ne (by omega)]; exact e1
    · rw [List.getElem?_set_ne (by omega), List.getElem?_set_ne (by omega)]; exact e2
/-- a row of integers of the call's own that is not empty, its address written out -/
theorem own_addr {w : World} {B : Nat} {v : Value} {xs : List Int} (h : Own w B v xs) (h1 : 1 ≤ xs.length) : ∃ g cap, v = .slice (some ⟨g, 0, none⟩) xs.length cap ∧ B ≤ g ∧ g < w.heap.size ∧ xs.length ≤ cap ∧ cap ≤ maxLen := by
  rcases h.2 with ⟨_, h0⟩ | ⟨g, cap, cur, e, hb, hg, hnc, hcm, _, _⟩
  · rw [h0] at h1; omega
  · exact ⟨g, cap, e, hb, (Array.getElem?_eq_some_iff.1 hg).1, hnc, hcm⟩
/-- a number of it stored anew -/
theorem own_set {w : World} {B g cap : Nat} {xs : List Int} (h : Own w B (.slice (some ⟨g, 0, none⟩) xs.length cap) xs) (k : Nat) (x : Int) :
    Own (w.setCell ⟨g, k, none⟩ (.int .i64 x)) B (.slice (some ⟨g, 0, none⟩) xs.length cap) (xs.set k x) ∧ Below B w (w.setCell ⟨g, k, none⟩ (.int .i64 x)) := by
  have st := h.stored k (.int .i64 x)
  refine ⟨?_, below_set w k _ (h.lt g rfl).1⟩
  unfold Own
  rw [List.length_set, List.map_set]
  exact st.1
theorem own_cell {w : World} {B g cap : Nat} {xs : List Int} (h : Own w B (.slice (some ⟨g, 0, none⟩) xs.length cap) xs) {k : Nat} (hk : k < xs.length) : w.cell? ⟨g, k, none⟩ = some (.int .i64 xs[k]) ∧ w.frozen? ⟨g, k, none⟩ = false := by
  have r := World.ownsRow.cellAt h k (by omega)
  rw [List.getElem?_map, List.getElem?_eq_getElem hk] at r
  exact ⟨r, World.ownsRow.frozenAt h k⟩
end Go.Proofs.Ytnccpifdajcejaa
