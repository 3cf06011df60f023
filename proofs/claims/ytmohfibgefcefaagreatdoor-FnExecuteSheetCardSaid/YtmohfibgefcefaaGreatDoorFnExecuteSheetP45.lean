/- What turning, reading backwards and exchanging folds do to a vertex that folds; its balance; what a crimp does to sums. No condition but sizes. The reference's 'l1Text' and 'l1Power': the text of so many folds with a rank, a power of two. No condition but sizes. The program's 'foldsOfNumber': the text of so many folds with a rank. No condition but sizes. The program's AnglesTurn, AnglesBack, FoldsBalance, FoldsSwap. No condition but sizes. -/
import Derived.Test.YtmohfibgefcefaaGreatDoorFnExecuteSheetP44
import Derived.Test.YtmohfibgefcefaaGreatDoorFnExecuteSheetP42
import Derived.Laws.BitsAllLaws
import Derived.Laws.BitsLemmas
import Derived.Laws.OwnMore
import Derived.Test.YtmohfibgefcefaaGreatDoorBytes
namespace Go.Proofs.YtmohfibgefcefaaGreatDoor

/-- the sum with alternating signs -/
def altS : List Int → Int
  | [] => 0
  | x :: r => x - altS r
theorem balGo_alt (k : Nat) (s : Int) (xs : List Int) : balGo k s xs = s + (if k % 2 = 0 then altS xs else -altS xs) := by
  induction xs generalizing k s with
  | nil => simp [balGo, altS]
  | cons x r ih =>
    rw [balGo, ih, altS]
    by_cases e : k % 2 = 0
    · rw [if_pos e, if_neg (by omega), if_pos e]; omega
    · rw [if_neg e, if_pos (by omega), if_neg e]; omega
theorem balB_alt (xs : List Int) : balB xs = decide (altS xs = 0) := by
  unfold balB
  rw [balGo_alt]; simp
theorem altS_app (u v : List Int) : altS (u ++ v) = altS u + (if u.length % 2 = 0 then altS v else -altS v) := by
  induction u with
  | nil => simp [altS]
  | cons x r ih =>
    rw [List.cons_append, altS, altS, ih, List.length_cons]
    by_cases e : r.length % 2 = 0
    · rw [if_pos e, if_neg (by omega)]; omega
    · rw [if_neg e, if_pos (by omega)]; omega
theorem altS_turn {u v : List Int} (h : (u ++ v).length % 2 = 0) : altS (v ++ u) = 0 ↔ altS (u ++ v) = 0 := by
  rw [altS_app, altS_app]
  rw [List.length_append] at h
  by_cases e : u.length % 2 = 0
  · rw [if_pos e, if_pos (by omega)]; omega
  · rw [if_neg e, if_neg (by omega)]; omega
theorem altS_rev (xs : List Int) : altS xs.reverse = if xs.length % 2 = 0 then -altS xs else altS xs := by
  induction xs with
  | nil => simp [altS]
  | cons x r ih =>
    rw [List.reverse_cons, altS_app, ih, List.length_reverse, List.length_cons]
    have e1 : altS [x] = x := by simp [altS]
    rw [e1]; simp only [altS]
    by_cases e : r.length % 2 = 0
    · rw [if_pos e, if_pos e, if_neg (by omega)]; omega
    · rw [if_neg e, if_neg e, if_pos (by omega)]; omega
theorem avB_iff (xs : List Int) : avB xs = true ↔ xs.length % 2 = 0 ∧ 2 ≤ xs.length ∧ xs.length ≤ 10 ∧ (∀ x ∈ xs, 1 ≤ x ∧ x ≤ 360) ∧ xs.sum = 360 := by
  constructor
  · exact avB_parts
  · rintro ⟨a, b, c, d, e⟩
    unfold avB
    simp only [Bool.and_eq_true, decide_eq_true_eq, List.all_eq_true]
    exact ⟨⟨⟨⟨a, b⟩, c⟩, d⟩, e⟩
theorem acB_iff (xs : List Int) : acB xs = true ↔ avB xs = true ∧ altS xs = 0 := by
  unfold acB
  rw [Bool.and_eq_true, balB_alt, decide_eq_true_eq]
theorem sum_app (u v : List Int) : (u ++ v).sum = u.sum + v.sum := by
  induction u with
  | nil => simp
  | cons x r ih => rw [List.cons_append, List.sum_cons, ih, List.sum_cons]; omega
theorem sum_rev (u : List Int) : u.reverse.sum = u.sum := by
  induction u with
  | nil => rfl
  | cons x r ih => rw [List.reverse_cons, sum_app, ih, List.sum_cons]; simp; omega
theorem avB_turn {u v : List Int} (h : avB (u ++ v) = true) : avB (v ++ u) = true := by
  rw [avB_iff] at h ⊢
  obtain ⟨a, b, c, d, e⟩ := h
  rw [List.length_append] at a b c
  rw [sum_app] at e
  refine ⟨by rw [List.length_append]; omega, by rw [List.length_append]; omega, by rw [List.length_append]; omega, fun x hx => d x ?_, by rw [sum_app]; omega⟩
  rw [List.mem_append] at hx ⊢
  exact hx.symm
theorem acB_turn {u v : List Int} (h : acB (u ++ v) = true) : acB (v ++ u) = true := by
  rw [acB_iff] at h ⊢
  exact ⟨avB_turn h.1, (altS_turn (avB_parts h.1).1).2 h.2⟩
theorem avB_rev {xs : List Int} (h : avB xs = true) : avB xs.reverse = true := by
  rw [avB_iff] at h ⊢
  obtain ⟨a, b, c, d, e⟩ := h
  exact ⟨by simpa using a, by simpa using b, by simpa using c, fun x hx => d x (by simpa using hx), by rw [sum_rev]; exact e⟩
theorem acB_rev {xs : List Int} (h : acB xs = true) : acB xs.reverse = true := by
  rw [acB_iff] at h ⊢
  refine ⟨avB_rev h.1, ?_⟩
  rw [altS_rev, if_pos (avB_parts h.1).1]; omega
theorem fvB_iff (cs : List UInt8) (n : Int) : fvB cs n = true ↔ (cs.length : Int) = n ∧ ∀ c ∈ cs, mvB c = true := by
  unfold fvB
  simp only [Bool.and_eq_true, decide_eq_true_eq, List.all_eq_true]

/-- a text out of its bytes -/
abbrev bts (cs : List UInt8) : ByteArray := ⟨cs.toArray⟩
theorem bts_list (cs : List UInt8) : (bts cs).data.toList = cs := rfl
theorem bts_of (s : ByteArray) : bts s.data.toList = s := by cases s; rfl

theorem vf_turn' {u v : List Int} {u' v' : List UInt8} (hl : u.length = u'.length) (h : vfB (u ++ v) (bts (u' ++ v')) = true) : vfB (v ++ u) (bts (v' ++ u')) = true := by
  rw [vfB_down] at h ⊢
  obtain ⟨h1, h2, h3⟩ := h
  rw [bts_list] at h2 h3 ⊢
  rw [fvB_iff] at h2 ⊢
  have hl' : v.length = v'.length := by
    have := h2.1
    rw [List.length_append, List.length_append] at this; omega
  refine ⟨acB_turn h1, ⟨by rw [List.length_append, List.length_append]; omega, fun c hc => h2.2 c ?_⟩, ?_⟩
  · rw [List.mem_append] at hc ⊢; exact hc.symm
  · rw [wl_app hl] at h3
    rw [wl_app hl']
    exact h3.rot (rot_mk _ _)
theorem vf_turn {u v : List Int} {u' v' : List UInt8} (hl : u.length = u'.length) (hl' : v.length = v'.length) : vfB (v ++ u) (bts (v' ++ u')) = vfB (u ++ v) (bts (u' ++ v')) := by
  rw [Bool.eq_iff_iff]
  exact ⟨vf_turn' hl', vf_turn' hl⟩

/-- read backwards, the first letter first -/
def mirr : List UInt8 → List UInt8
  | [] => []
  | c :: r => c :: r.reverse
theorem wl_rev {xs : List Int} {cs : List UInt8} (h : xs.length = cs.length) : Rot (wl xs cs).reverse (wl xs.reverse (mirr cs)) := by
  cases cs with
  | nil =>
    have : xs = [] := List.eq_nil_of_length_eq_zero (by simpa using h)
    subst this
    exact Rot.refl _
  | cons c r =>
    -- the word backwards, its last letter taken to the front
    have key : ∀ (ys : List Int) (ds : List UInt8) (e : UInt8), ys.length = ds.length + 1 → ∃ t, (wl ys (e :: ds)).reverse = t ++ [Ltr.F e.toNat] ∧ wl ys.reverse (e :: ds.reverse) = [Ltr.F e.toNat] ++ t := by
      intro ys
      induction ys with
      | nil => intro ds e h; simp at h
      | cons y ys ih =>
        intro ds e h
        cases ds with
        | nil =>
          have : ys = [] := List.eq_nil_of_length_eq_zero (by simpa using h)
          subst this
          exact ⟨[Ltr.X y], by simp [wl], by simp [wl]⟩
        | cons d ds =>
          obtain ⟨t, e1, e2⟩ := ih ds d (by simpa using h)
          refine ⟨t ++ [Ltr.F d.toNat, Ltr.X y], ?_, ?_⟩
          · rw [wl, List.reverse_cons, List.reverse_cons, e1]; simp
          · rw [List.reverse_cons, List.reverse_cons]
            have hl : ys.reverse.length = (e :: ds.reverse).length := by simpa using h
            rw [show e :: (ds.reverse ++ [d]) = (e :: ds.reverse) ++ [d] from rfl, wl_app hl]
            have e3 : wl ys.reverse (e :: ds.reverse) = [Ltr.F e.toNat] ++ t := by
              cases hys : ys.reverse with
              | nil => rw [hys] at hl; simp at hl
              | cons z zs =>
                rw [hys] at e2
                simp only [wl, List.cons_append, List.nil_append, List.cons.injEq] at e2 ⊢
                exact ⟨trivial, e2.2⟩
            rw [e3]; simp [wl]
    obtain ⟨t, e1, e2⟩ := key xs r c (by simpa using h)
    rw [e1, mirr, e2]
    exact rot_mk _ _
theorem vf_rev {xs : List Int} {cs : List UInt8} (h : vfB xs (bts cs) = true) : vfB xs.reverse (bts (mirr cs)) = true := by
  rw [vfB_down] at h ⊢
  obtain ⟨h1, h2, h3⟩ := h
  rw [bts_list] at h2 h3 ⊢
  rw [fvB_iff] at h2 ⊢
  have hl : xs.length = cs.length := by have := h2.1; omega
  refine ⟨acB_rev h1, ⟨?_, fun c hc => h2.2 c ?_⟩, h3.rev.rot (wl_rev hl)⟩
  · rw [List.length_reverse, hl]
    cases cs <;> simp [mirr]
  · cases cs with
    | nil => exact hc
    | cons d r => simpa [mirr] using hc

/-- a letter exchanged -/
def swB (c : UInt8) : UInt8 := if c = 77 then 86 else if c = 86 then 77 else c
theorem swB_nat (c : UInt8) : (swB c).toNat = swF c.toNat := by
  unfold swB swF
  by_cases h1 : c = 77
  · rw [h1]; rfl
  · by_cases h2 : c = 86
    · rw [h2]; rfl
    · rw [if_neg h1, if_neg h2, if_neg (fun e => h1 (UInt8.toNat_inj.1 (by rw [e]; rfl))), if_neg (fun e => h2 (UInt8.toNat_inj.1 (by rw [e]; rfl)))]
theorem swB_mv {c : UInt8} (h : mvB c = true) : mvB (swB c) = true := by
  unfold swB
  by_cases h1 : c = 77
  · rw [if_pos h1]; rfl
  · by_cases h2 : c = 86
    · rw [if_neg h1, if_pos h2]; rfl
    · rw [if_neg h1, if_neg h2]; exact h
theorem swB_swB (c : UInt8) : swB (swB c) = c := by
  unfold swB
  by_cases h1 : c = 77
  · rw [h1]; rfl
  · by_cases h2 : c = 86
    · rw [h2]; rfl
    · simp [h1, h2]
theorem wl_swap (xs : List Int) (cs : List UInt8) : wl xs (cs.map swB) = (wl xs cs).map swL := by
  induction xs generalizing cs with
  | nil => simp [wl]
  | cons x r ih =>
    cases cs with
    | nil => simp [wl]
    | cons c t => simp [wl, swL, ih, swB_nat]
/-- a text with all letters exchanged -/
def swT (s : ByteArray) : ByteArray := bts (s.data.toList.map swB)
theorem swT_size (s : ByteArray) : (swT s).size = s.size := by
  show (List.toArray _).size = _
  rw [List.size_toArray, List.length_map]; exact size_list s
theorem vf_swap' {xs : List Int} {cs : List UInt8} (h : vfB xs (bts cs) = true) : vfB xs (bts (cs.map swB)) = true := by
  rw [vfB_down] at h ⊢
  obtain ⟨h1, h2, h3⟩ := h
  rw [bts_list] at h2 h3 ⊢
  rw [fvB_iff] at h2 ⊢
  refine ⟨h1, ⟨by simpa using h2.1, fun c hc => ?_⟩, by rw [wl_swap]; exact h3.swap⟩
  obtain ⟨d, hd, rfl⟩ := List.mem_map.1 hc
  exact swB_mv (h2.2 d hd)
theorem swB_map (cs : List UInt8) : (cs.map swB).map swB = cs := by
  rw [List.map_map]
  conv => rhs; rw [← List.map_id cs]
  exact List.map_congr_left fun c _ => swB_swB c
theorem vf_swap (xs : List Int) (cs : List UInt8) : vfB xs (bts (cs.map swB)) = vfB xs (bts cs) := by
  rw [Bool.eq_iff_iff]
  exact ⟨fun h => by have := vf_swap' h; rwa [swB_map] at this, vf_swap'⟩

/-- mountains less valleys of a text -/
def balT : List UInt8 → Int
  | [] => 0
  | c :: r => (if c = 77 then 1 else if c = 86 then -1 else 0) + balT r
theorem mvS_wl {xs : List Int} {cs : List UInt8} (h : xs.length = cs.length) : mvS (wl xs cs) = balT cs := by
  induction xs generalizing cs with
  | nil =>
    cases cs with
    | nil => rfl
    | cons c r => simp at h
  | cons x r ih =>
    cases cs with
    | nil => simp at h
    | cons c t =>
      rw [wl, mvS, mvS, balT, ih (by simpa using h)]
      have e1 : (c.toNat = 77) ↔ c = 77 := ⟨fun e => UInt8.toNat_inj.1 (by rw [e]; rfl), fun e => by rw [e]; rfl⟩
      have e2 : (c.toNat = 86) ↔ c = 86 := ⟨fun e => UInt8.toNat_inj.1 (by rw [e]; rfl), fun e => by rw [e]; rfl⟩
      simp only [e1, e2]
theorem wl_bin {xs : List Int} {cs : List UInt8} (h : ∀ c ∈ cs, mvB c = true) : Bin (wl xs cs) := by
  induction xs generalizing cs with
  | nil => intro f hf; simp [wl] at hf
  | cons x r ih =>
    cases cs with
    | nil => intro f hf; simp [wl] at hf
    | cons c t =>
      intro f hf
      simp [wl] at hf
      rcases hf with rfl | hf
      · have := h c (by simp)
        unfold mvB at this
        simpa using this
      · exact ih (fun c hc => h c (by simp [hc])) f hf
theorem vf_bal {xs : List Int} {cs : List UInt8} (h : vfB xs (bts cs) = true) : balT cs = 2 ∨ balT cs = -2 := by
  rw [vfB_down] at h
  obtain ⟨h1, h2, h3⟩ := h
  rw [bts_list] at h2 h3
  rw [fvB_iff] at h2
  rw [← mvS_wl (xs := xs) (by have := h2.1; omega)]
  exact h3.mvS (wl_bin h2.2)

/-- the angles of a word -/
def xsOf : List Ltr → List Int
  | [] => []
  | .F _ :: r => xsOf r
  | .X x :: r => x :: xsOf r
theorem xsOf_app (u v : List Ltr) : xsOf (u ++ v) = xsOf u ++ xsOf v := by
  induction u with
  | nil => rfl
  | cons y r ih => cases y <;> simp [xsOf, ih]
theorem xsOf_wl {xs : List Int} {cs : List UInt8} (h : xs.length = cs.length) : xsOf (wl xs cs) = xs := by
  induction xs generalizing cs with
  | nil => cases cs <;> rfl
  | cons x r ih =>
    cases cs with
    | nil => simp at h
    | cons c t => simp [wl, xsOf, ih (show r.length = t.length by simpa using h)]
theorem Rot.sum {l m : List Ltr} (h : Rot l m) : (xsOf l).sum = (xsOf m).sum := by
  obtain ⟨u, v, rfl, rfl⟩ := h
  rw [xsOf_app, xsOf_app, sum_app, sum_app]; omega
theorem Rot.xlen {l m : List Ltr} (h : Rot l m) : (xsOf l).length = (xsOf m).length := by
  obtain ⟨u, v, rfl, rfl⟩ := h
  rw [xsOf_app, xsOf_app, List.length_append, List.length_append]; omega
theorem Rot.alt {l m : List Ltr} (h : Rot l m) (he : (xsOf l).length % 2 = 0) : altS (xsOf l) = 0 ↔ altS (xsOf m) = 0 := by
  obtain ⟨u, v, rfl, rfl⟩ := h
  rw [xsOf_app] at he ⊢
  rw [xsOf_app]
  exact (altS_turn he).symm
theorem Step.alt {l m : List Ltr} (h : Step l m) (he : (xsOf l).length % 2 = 0) : (altS (xsOf l) = 0 ↔ altS (xsOf m) = 0) ∧ (xsOf m).length % 2 = 0 := by
  obtain ⟨a, g, b, hh, c, rest, r1, r2, hne, hmin, hlen⟩ := h
  have l1 := r1.xlen
  have l2 := r2.xlen
  simp only [xsOf, List.length_cons] at l1 l2
  refine ⟨?_, by omega⟩
  rw [r1.alt he, ← r2.alt (by simp only [xsOf, List.length_cons]; omega)]
  simp only [xsOf, altS]
  rw [show a - (b - (c - altS (xsOf rest))) = a + c - b - altS (xsOf rest) from by omega]
theorem Step.sums {l m : List Ltr} (h : Step l m) : ∃ b, Ltr.X b ∈ l ∧ (∀ x, Ltr.X x ∈ l → b ≤ x) ∧ (∀ x, Ltr.X x ∈ m → b ≤ x) ∧ (xsOf l).sum = (xsOf m).sum + 2 * b := by
  obtain ⟨a, g, b, hh, c, rest, r1, r2, hne, hmin, hlen⟩ := h
  refine ⟨b, (r1.mem _).2 (by simp), hmin, ?_, ?_⟩
  · intro x hx
    have := (r2.mem _).2 hx
    simp at this
    rcases this with e | e
    · have h1 := hmin a ((r1.mem _).2 (by simp))
      have h2 := hmin c ((r1.mem _).2 (by simp))
      omega
    · exact hmin x ((r1.mem _).2 (by simp [e]))
  · rw [r1.sum, ← r2.sum]
    simp only [xsOf, List.sum_cons]
    omega
end Go.Proofs.YtmohfibgefcefaaGreatDoor
namespace Go.Proofs.YtmohfibgefcefaaGreatDoor
open Go.RowKit

/-- the letter of a bit -/
def bitL (k i : Nat) : UInt8 := if (k / 2 ^ i) % 2 = 0 then 77 else 86
def txtL : Nat → Nat → List UInt8
  | 0, _ => []
  | i + 1, k => bitL k i :: txtL i k
def txt (n k : Nat) : ByteArray := ⟨(txtL n k).toArray⟩
theorem txtL_len (n k : Nat) : (txtL n k).length = n := by
  induction n with
  | zero => rfl
  | succ n ih => simp [txtL, ih]
theorem txt_size (n k : Nat) : (txt n k).size = n := by simp [txt, ByteArray.size, txtL_len]
theorem txt_succ (i k : Nat) : ByteArray.mk #[bitL k i] ++ txt i k = txt (i + 1) k := ByteArray.mk_append_mk [bitL k i] (txtL i k)
theorem txtL_get (n k i : Nat) (h : i < n) : (txtL n k)[i]? = some (bitL k (n - 1 - i)) := by
  induction n generalizing i with
  | zero => omega
  | succ n ih =>
    cases i with
    | zero => simp [txtL]
    | succ i =>
      rw [txtL, List.getElem?_cons_succ, ih i (by omega)]
      congr 2; omega

set_option maxHeartbeats 1000000 in
theorem spec_l1Text (n k : Nat) (w : World) (hn : n ≤ 100) (hk : k ≤ 1000000000000) :
    Calls Tryz.prog 45 #[.int .i64 n, .int .i64 k] w fun e w' => e = .returned (.string (txt n k)) ∧ w = w' := by
  go_enter Tryz.func45, Tryz.ntmps45
  go_wp2_with fail
  go_loop [1, 5, 6] (fun s1 s5 s6 => ∃ (i r : Nat) (t : ByteArray), i ≤ n ∧ s6 = .int .i64 i ∧ s1 = .int .i64 r ∧ s5 = .string t ∧ r ≤ k ∧ t.size ≤ 100 ∧ Hid (t.size = i) ∧ Hid (t = txt i k) ∧ Hid (r = k / 2 ^ i)) (fun _ _ s6 => n - (intOf s6).toNat)
  case atStart => exact ⟨0, k, _, Nat.zero_le _, rfl, rfl, rfl, Nat.le_refl _, by decide, rfl, rfl, by show k = k / 2 ^ 0; simp⟩
  case round =>
    obtain ⟨i, r, t, hi, rfl, rfl, rfl, hr, hts, HT, HE, HR⟩ := hrel
    have hrn : Hid (r / 2 = k / 2 ^ (i + 1)) := by show _ = _; rw [HR.out, Nat.pow_succ, Nat.div_div_eq_div_mul]
    by_cases hlt : i < n
    · have h63 : (1 : Nat) + t.size ≤ 9223372036854775807 := by omega
      by_cases q : r % 2 = 0
      · have d1 : (((r : Int) % 2) == 0) = true := by simp; omega
        have hb : bitL k i = 77 := by unfold bitL; rw [← HR.out, if_pos q]
        have HB := Lib.hid hb
        have b12 : ∀ W, (Op.stringOp .add (ByteArray.mk #[77]) t).run Tryz.prog W = .ok (.string (ByteArray.mk #[77] ++ t)) W := fun W => run_string_add_sum W _ _ h63
        clear q hb h63
        go_wp2_with fail
        go_round
        case rel => exact ⟨i + 1, r / 2, _, by omega, by go_num, by go_num, rfl, by omega, by rw [ByteArray.size_append]; have := HT.out; show 1 + t.size ≤ 100; omega, by show _ = _; rw [ByteArray.size_append, HT.out]; show 1 + i = i + 1; omega, by show _ = _; rw [HE.out, ← txt_succ, HB.out], hrn⟩
        case measure => simp [intOf]; omega
      · have d1 : (((r : Int) % 2) == 0) = false := by rw [beq_eq_false_iff_ne]; omega
        have hb : bitL k i = 86 := by unfold bitL; rw [← HR.out, if_neg q]
        have HB := Lib.hid hb
        have b12 : ∀ W, (Op.stringOp .add (ByteArray.mk #[86]) t).run Tryz.prog W = .ok (.string (ByteArray.mk #[86] ++ t)) W := fun W => run_string_add_sum W _ _ h63
        clear q hb h63
        go_wp2_with fail
        go_round
        case rel => exact ⟨i + 1, r / 2, _, by omega, by go_num, by go_num, rfl, by omega, by rw [ByteArray.size_append]; have := HT.out; show 1 + t.size ≤ 100; omega, by show _ = _; rw [ByteArray.size_append, HT.out]; show 1 + i = i + 1; omega, by show _ = _; rw [HE.out, ← txt_succ, HB.out], hrn⟩
        case measure => simp [intOf]; omega
    · obtain rfl : i = n := by omega
      go_wp2_with fail
      go_ret
      exact ⟨by rw [← HE.out]; rfl, rfl⟩

set_option maxHeartbeats 400000 in
theorem spec_l1Power (n : Nat) (w : World) (hn : n ≤ 40) :
    Calls Tryz.prog 44 #[.int .i64 n] w fun e w' => e = .returned (.int .i64 ((2 ^ n : Nat) : Int)) ∧ w = w' := by
  go_enter Tryz.func44, Tryz.ntmps44
  go_wp2_with fail
  go_loop [3, 4] (fun s3 s4 => ∃ (i p : Nat), i ≤ n ∧ s4 = .int .i64 i ∧ s3 = .int .i64 p ∧ p ≤ 1099511627776 ∧ Hid (p = 2 ^ i)) (fun _ s4 => n - (intOf s4).toNat)
  case atStart => exact ⟨0, 1, Nat.zero_le _, rfl, rfl, by omega, rfl⟩
  case round =>
    obtain ⟨i, p, hi, rfl, rfl, hp, HP⟩ := hrel
    by_cases hlt : i < n
    · have hp2 : p * 2 ≤ 1099511627776 := by
        have h1 : p * 2 = 2 ^ (i + 1) := by rw [HP.out, Nat.pow_succ]
        have h2 : 2 ^ (i + 1) ≤ 2 ^ 40 := Nat.pow_le_pow_right (by omega) (by omega)
        have h3 : 2 ^ 40 = 1099511627776 := by decide
        omega
      go_wp2_with fail
      go_round
      case rel => exact ⟨i + 1, p * 2, by omega, by go_num, by go_num, hp2, by show _ = _; rw [HP.out, Nat.pow_succ]⟩
      case measure => simp [intOf]; omega
    · obtain rfl : i = n := by omega
      go_wp2_with fail
      go_ret
      exact ⟨ret_int (by rw [HP.out]; simp), rfl⟩

end Go.Proofs.YtmohfibgefcefaaGreatDoor
namespace Go.Proofs.YtmohfibgefcefaaGreatDoor
open Go.RowKit

theorem i64_and_one (a : Nat) (ha : a < 9223372036854775808) : bits .and .i64 (a : Int) 1 = ((a % 2 : Nat) : Int) := by
  have h1 : (BitVec.ofInt 64 (a : Int)).toNat = a := by rw [BitVec.ofInt_natCast, BitVec.toNat_ofNat]; exact Nat.mod_eq_of_lt (by omega)
  show IntKind.i64.wrap ((BitVec.ofInt 64 (a : Int) &&& BitVec.ofInt 64 (1 : Int)).toNat : Int) = _
  rw [BitVec.toNat_and, h1, show (BitVec.ofInt 64 (1 : Int)).toNat = 1 from by decide, Nat.and_one_is_mod, IntKind.wrap_i64]
  omega
theorem shr_nat (k m : Nat) : (k : Int) / 2 ^ m = ((k / 2 ^ m : Nat) : Int) := by simp
theorem byteVals_set (bs : List UInt8) (i : Nat) (c : UInt8) (ci : Int) (h : (c.toNat : Int) = ci) : (byteVals bs).set i (.int .u8 ci) = byteVals (bs.set i c) := by
  subst h; simp [byteVals, List.map_set]
theorem made_zero (n : Nat) : (madeCells (Value.int .u8 0).cells (n * 1)).toList = byteVals (List.replicate n 0) := by
  apply List.ext_getElem
  · simp [madeCells, byteVals]
  · intro i h1 h2
    simp [madeCells, byteVals, Value.cells, Nat.mod_one]
theorem ext_txtL (n k : Nat) (bs : List UInt8) (hl : bs.length = n) (h : ∀ j, j < n → bs[j]? = some (bitL k (n - 1 - j))) : bs = txtL n k := by
  apply List.ext_getElem?
  intro i
  by_cases hi : i < n
  · rw [h i hi, txtL_get n k i hi]
  · rw [List.getElem?_eq_none (by omega), List.getElem?_eq_none (by rw [txtL_len]; omega)]

set_option maxHeartbeats 1000000 in
theorem impl_foldsOfNumber (n k : Nat) (w : World) (hn : n ≤ 60) (hk : k ≤ 1000000000000) :
    Calls Tryz.prog 41 #[.int .i64 n, .int .i64 k] w fun e w' => e = .returned (.string (txt n k)) ∧ Below w.heap.size w w' := by
  go_enter Tryz.func41, Tryz.ntmps41
  obtain ⟨i0, hi, hz0, hz1, hz2⟩ := info_parts Tryz.infoByte
  obtain ⟨w1, hrun, ho1, hg1⟩ := run_make_full (P := Tryz.prog) w w.heap.size 22 5 i0 (.int .u8 0) 1 Tryz.underlying22 hi hz0 hz1 .i64 .i64 n (by rw [hz2]; omega) (by unfold maxLen; omega) (Nat.le_refl w.heap.size)
  rw [made_zero] at ho1
  have HB := Lib.hid ((Below.refl w.heap.size w).grown hg1 (Nat.le_refl _) (fun _ hh => by cases hh))
  have HO := Lib.hid ho1
  have HR := Lib.hid hrun
  clear ho1 hg1 hi hz0 hz1 hz2 hrun
  set_option maxRecDepth 100000 in
  go_wp2_with fail
  rw [HR.out]
  go_wp2_with fail
  go_loopg [11] (n + 1) (fun g s11 wr => ∃ (i : Nat) (bs : List UInt8), i ≤ n ∧ s11 = .int .i64 i ∧ n - i < g ∧ Below w.heap.size w wr ∧ bs.length = n ∧ Hid (∀ j, j < i → bs[j]? = some (bitL k (n - 1 - j))) ∧
    wr.ownsRow w.heap.size 5 1 (.slice (some ⟨w.heap.size, 0, none⟩) n n) n (byteVals bs))
  case atStart => exact ⟨0, List.replicate n 0, Nat.zero_le _, rfl, by omega, HB.out, by simp, fun j hj => absurd hj (Nat.not_lt_zero j), HO.out⟩
  case round =>
    obtain ⟨i, bs, hi, rfl, hg, hbel, hlen, HE, hown⟩ := hrel
    cases gk with
    | zero => omega
    | succ g =>
    by_cases hlt : i < n
    · have c1 := hown.cellAt i (by omega)
      rw [List.getElem?_eq_getElem (by simp [byteVals_len]; omega)] at c1
      have c2 := hown.frozenAt i
      have st1 := hown.stored i (.int .u8 77)
      rw [byteVals_set bs i 77 77 rfl] at st1
      have hb1 := hbel.grown st1.2 hbel.size (fun k hk => by cases hk; exact Nat.le_refl _)
      have st2 := st1.1.stored i (.int .u8 86)
      rw [byteVals_set _ i 86 86 rfl, List.set_set] at st2
      have hb2 := hb1.grown st2.2 hb1.size (fun k hk => by cases hk; exact Nat.le_refl _)
      have c3 := st1.1.frozenAt i
      have c4 := st1.1.cellAt i (by omega)
      rw [List.getElem?_eq_getElem (by simp [byteVals_len]; omega)] at c4
      have he : ∀ c : UInt8, bitL k (n - 1 - i) = c → ∀ j, j < i + 1 → (bs.set i c)[j]? = some (bitL k (n - 1 - j)) := by
        intro c hc j hj
        rw [List.getElem?_set]
        by_cases hji : i = j
        · subst hji; rw [if_pos rfl, if_pos (by omega), hc]
        · rw [if_neg hji]; exact HE.out j (by omega)
      have hbits : bits .and .i64 ((k : Int) / 2 ^ (n - 1 - i)) 1 = ((k / 2 ^ (n - 1 - i) % 2 : Nat) : Int) := by
        rw [shr_nat]
        exact i64_and_one _ (Nat.lt_of_le_of_lt (Nat.div_le_self _ _) (by omega))
      have S1 := Lib.hid (show _ ∧ _ ∧ _ from ⟨st1.1, hb1, he⟩)
      have S2 := Lib.hid (show _ ∧ _ from ⟨st2.1, hb2⟩)
      clear st1 st2 hb1 hb2 he hown hbel HE HB HO HR
      by_cases q : k / 2 ^ (n - 1 - i) % 2 = 0
      · have d1 : (bits .and .i64 ((k : Int) / 2 ^ (n - 1 - i)) 1 == 1) = false := by rw [hbits, q]; rfl
        have hb : bitL k (n - 1 - i) = 77 := if_pos q
        have HBB := Lib.hid hb
        clear hb q hbits
        go_wp2_with fail
        go_roundg g
        case measure => omega
        case rel => exact ⟨i + 1, bs.set i 77, by omega, by go_num, by omega, S1.out.2.1, by simp [hlen], S1.out.2.2 77 HBB.out, S1.out.1⟩
      · have d1 : (bits .and .i64 ((k : Int) / 2 ^ (n - 1 - i)) 1 == 1) = true := by rw [hbits, show k / 2 ^ (n - 1 - i) % 2 = 1 from by omega]; rfl
        have hb : bitL k (n - 1 - i) = 86 := if_neg q
        have HBB := Lib.hid hb
        clear hb q hbits
        go_wp2_with fail
        go_roundg g
        case measure => omega
        case rel => exact ⟨i + 1, bs.set i 86, by omega, by go_num, by omega, S2.out.2, by simp [hlen], S1.out.2.2 86 HBB.out, S2.out.1⟩
    · obtain rfl : i = n := by omega
      have hbe : bs = txtL i k := ext_txtL i k bs hlen HE.out
      subst hbe
      have ho : OwnB wr w.heap.size (.slice (some ⟨w.heap.size, 0, none⟩) i i) (txtL i k) := by
        have := hown; rw [← hlen] at this; simpa [OwnB, txtL_len] using this
      have hst : (convert 22 9 (.slice (some ⟨w.heap.size, 0, none⟩) i i)).run Tryz.prog wr = .ok (.string (txt i k)) wr := run_ownB_string ho
      clear ho hown HB HO HR
      go_wp2_with fail
      go_ret
      exact ⟨rfl, hbel⟩
end Go.Proofs.YtmohfibgefcefaaGreatDoor
namespace Go.Proofs.YtmohfibgefcefaaGreatDoor
open Go.RowKit


end Go.Proofs.YtmohfibgefcefaaGreatDoor
