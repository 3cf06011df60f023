/- A whole script: the program's. No condition but what the table of powers of ten holds. A whole script: the reference's. No condition but sizes. -/
import Derived.Test.YtkdlipbegdiaaaaGreatDoorEzBP43
import Derived.Test.YtkdlipbegdiaaaaGreatDoorEzBP45
import Derived.Test.YtkdlipbegdiaaaaGreatDoorEzBP31
namespace Go.Proofs.YtkdlipbegdiaaaaGreatDoor
open Go.RowKit
theorem join_scrZ (ls : List (List UInt8)) (z : List UInt8) : joinC 10 (ls ++ [z]) = scr ls ++ z := by
  induction ls with
  | nil => rfl
  | cons x r ih =>
    have : ∃ y q, r ++ [z] = y :: q := by
      cases r with
      | nil => exact ⟨_, _, rfl⟩
      | cons y q => exact ⟨_, _, rfl⟩
    obtain ⟨y, q, e⟩ := this
    show joinC 10 (x :: (r ++ [z])) = _
    rw [e] at ih ⊢
    show x ++ 10 :: joinC 10 (y :: q) = _
    rw [ih]; simp [scr]
set_option maxHeartbeats 4000000 in
set_option maxRecDepth 100000 in
theorem impl_ExecuteZ (m : Int) (ls : List (List UInt8)) (z : List UInt8) (hl : (scr ls ++ z).length ≤ 300) (hx : ∀ x ∈ ls, (10 : UInt8) ∉ x) (hz : (10 : UInt8) ∉ z) (hn : ls.length ≤ 300) (st : Nat → List Int × List UInt8) (out : Nat → List UInt8) (hs0 : st 0 = ([], [])) (hend : (st ls.length).1.length < 100) (hout : ∀ k, (out k).length ≤ 10000)
    (w : World) (hm : w.cell? ⟨0, 0, none⟩ = some (.int .i64 m)) (h0 : 0 < w.heap.size)
    (HA : ∀ k x, ls[k]? = some x → ∀ td W, w.heap.size ≤ td → Below w.heap.size w W → Desk W td (st k).1 (st k).2 → Calls Tryz.prog 26 #[.pointer (some ⟨td, 0, none⟩), .string (btj x)] W fun e w' => e = .returned (.string (btj (out k))) ∧ W.grownBy w' (some td) ∧ Desk w' td (st (k + 1)).1 (st (k + 1)).2) :
    Calls Tryz.prog 12 #[.string (btj (scr ls ++ z))] w fun e w' => e = .returned (.string (btj (outTo out ls.length ++ ([97, 110, 103, 108, 101, 115, 32] ++ Lib.decDigits (st ls.length).1.length ++ [10])))) ∧ Below w.heap.size w w' := by
  have hxa : ∀ x ∈ ls ++ [z], (10 : UInt8) ∉ x := by
    intro x hx1
    rcases List.mem_append.1 hx1 with h | h
    · exact hx x h
    · rw [List.mem_singleton] at h; subst h; exact hz
  obtain ⟨L, hL⟩ : ∃ L, L = btj (scr ls ++ z) := ⟨_, rfl⟩
  have hLs : L.size = (scr ls ++ z).length := by rw [hL]; show (List.toArray _).size = _; simp
  have hcnt := count_join 10 (ls ++ [z]) (by simp) hxa
  have hspl := split_join 10 (ls ++ [z]) (by simp) hxa
  rw [join_scrZ, ← hL] at hcnt hspl
  have hc1 : Lib.countB L (btj [10]) = ls.length := by simp at hcnt; omega
  rw [hc1] at hspl
  have HSP : Hid (∀ W : World, W.cell? ⟨0, 0, none⟩ = some (.int .i64 m) → Calls Tryz.prog 25 #[.string L, .string ⟨#[10]⟩] W fun e w' => e = .returned (.slice (some ⟨W.heap.size, 0, none⟩) (ls.length + 1) (ls.length + 1)) ∧ w' = W.alloc (.cells (((ls ++ [z]).map btj).map Value.string).toArray 9)) := by
    show ∀ W : World, _
    intro W hW
    have := Tryz.strings_Split L (btj [10]) m W (by omega) hW (Nat.le_refl 1)
    rw [hc1, hspl] at this
    exact this
  have HAA := Lib.hid HA
  have HOL := Lib.hid (fun k => outTo_len hout k)
  have HOU := Lib.hid hout
  have hLs2 : (L.size : Int) ≤ 300 := by omega
  rw [← hL]
  clear hxa hL hcnt hspl hc1 hx hz HA hout hLs hl
  go_enter Tryz.func12, Tryz.ntmps12
  go_wp2_with fail
  obtain ⟨td, htd⟩ : ∃ td, td = w.heap.size := ⟨_, rfl⟩
  obtain ⟨w2, hw2⟩ : ∃ x, x = (w.alloc (.cells #[.slice none 0 0, .string ⟨#[]⟩] 45)).alloc (.cells #[] 5) := ⟨_, rfl⟩
  have hb2 : Below w.heap.size w w2 := by rw [hw2]; exact ((Below.refl _ _).alloc (Nat.le_refl _) _).alloc (by simp) _
  have hD2 : Desk w2 td (st 0).1 (st 0).2 := by
    rw [hs0]
    refine ⟨none, 0, ?_, Ints.nil _ _, Nat.le_refl _, by unfold maxLen; omega, fun a e => by cases e⟩
    rw [hw2, htd]; exact (Blk.new w _ _).alloc _
  have hO2 : OwnB w2 w.heap.size (.slice (some ⟨w.heap.size + 1, 0, none⟩) 0 0) (outTo out 0) := by
    have e : w.heap.size + 1 = (w.alloc (.cells #[.slice none 0 0, .string ⟨#[]⟩] 45)).heap.size := by simp
    rw [hw2, e]
    exact World.ownsRow_lit _ #[] 0 (by simp) (by unfold maxLen; omega) rfl
  have hm2 : w2.cell? ⟨0, 0, none⟩ = some (.int .i64 m) := (hb2.cell (p := ⟨0, 0, none⟩) h0).trans hm
  have HB2 := Lib.hid hb2
  have HD2 := Lib.hid hD2
  have HO2 := Lib.hid hO2
  have HTD : Hid (w.heap.size ≤ td) := Nat.le_of_eq htd.symm
  rw [← hw2, ← htd]
  clear hw2 hb2 hD2 hO2
  refine (HSP.out w2 hm2).mono ?_
  rintro e w3 ⟨rfl, hw3⟩
  have hb3 : Below w2.heap.size w2 w3 := by rw [hw3]; exact (Below.refl _ _).alloc (Nat.le_refl _) _
  have HB3 := Lib.hid (HB2.out.trans (hb3.mono HB2.out.size))
  have HD3 := Lib.hid (HD2.out.below hb3)
  have HO3 : Hid (OwnB w3 w.heap.size (.slice (some ⟨td + 1, 0, none⟩) 0 0) (outTo out 0)) := by
    show OwnB _ _ _ _
    rw [htd]; exact own_keepE HO2.out hb3
  have HK3 : Hid (Blk w3 w2.heap.size 9 (((ls ++ [z]).map btj).map Value.string).toArray) := by show Blk _ _ _ _; rw [hw3]; exact Blk.new w2 _ _
  obtain ⟨lb, hlb⟩ : ∃ lb, lb = w2.heap.size := ⟨_, rfl⟩
  have HLB : Hid (td ≠ lb) := by show _ ≠ _; rw [hlb]; exact Nat.ne_of_lt HD2.out.lt
  rw [← hlb] at HK3 ⊢
  clear hw3 hb3 HB2 HD2 HO2 hlb HSP hm2 htd
  go_wp2_with fail
  go_loopg [4, 7, 22] (ls.length + 1) (fun gg s4 s7 s22 wr => ∃ (k : Nat), s7 = s7 ∧ k ≤ ls.length ∧ s22 = .int .i64 k ∧ ls.length - k < gg ∧ Hid (Below w.heap.size w wr) ∧ Hid (Desk wr td (st k).1 (st k).2) ∧ Hid (OwnB wr w.heap.size s4 (outTo out k)) ∧ Hid (Blk wr lb 9 (((ls ++ [z]).map btj).map Value.string).toArray))
  case atStart => exact ⟨0, rfl, Nat.zero_le _, rfl, by omega, HB3, HD3, HO3, HK3⟩
  case round =>
    clear HB3 HD3 HO3 HK3
    obtain ⟨k, _, hk, rfl, hg, HB, HD, HO, HK⟩ := hrel
    cases gk with
    | zero => omega
    | succ g1 =>
    by_cases hlt : k < ls.length
    · have k1 : (k : Int) < (ls.length : Int) := by omega
      have k0 : (0 : Int) ≤ (k : Int) := by omega
      obtain ⟨x, hx⟩ : ∃ x, x = ls[k] := ⟨_, rfl⟩
      have hget : ls[k]? = some x := by rw [hx]; exact List.getElem?_eq_getElem hlt
      have n1 : wr.cell? ⟨lb, k, none⟩ = some (.string (btj x)) := by
        rw [HK.out.cell k]
        have : ((ls ++ [z]).map btj).map Value.string = ls.map (fun x => Value.string (btj x)) ++ [Value.string (btj z)] := by simp
        rw [this]
        rw [List.getElem?_toArray, List.getElem?_append_left (by simpa using hlt), List.getElem?_map, hget]; rfl
      have HCA := Lib.hid (HAA.out k x hget td wr HTD.out HB.out HD.out)
      clear hx hget
      go_wp2_with fail
      refine HCA.out.mono ?_
      rintro e w5 ⟨rfl, hg5, hd5⟩
      have HB5 := Lib.hid (HB.out.grown hg5 HB.out.size (fun g e => by cases e; exact HTD.out))
      have HO5 := Lib.hid (HO.out.kept hg5 (Or.inr (HD.out.ne_ HO.out (by decide))))
      have HK5 := Lib.hid (HK.out.grown hg5 (fun e => HLB.out (Option.some.inj e).symm))
      have HD5 := Lib.hid hd5
      have hol := HOL.out k
      have houk := HOU.out k
      clear hg5 hd5 HB HO HK HD
      go_wp2_with (at_builtin; go_loud (refine wpList_appText (W := w5) rfl _ _ rfl w.heap.size _ (outTo out k) (out k) (by rfl) (by rfl) HO5.out HB5.out.size (by omega) ?_))
      intro v6 w6 ho6 hg6 hb6
      have HD6 := Lib.hid (HD5.out.own HO5.out hg6 (by decide) (by decide))
      have HB6 := Lib.hid (HB5.out.trans hb6)
      have HK6 := Lib.hid (HK5.out.grown hg6 (own_blk_ne HO5.out HK5.out (by decide)).symm)
      have HO6 := Lib.hid ho6
      clear ho6 hg6 hb6 HB5 HO5 HK5 HD5
      go_wp2_with (at_builtin; go_loud (refine wpList_pushB (W := w6) rfl _ _ rfl w.heap.size _ (outTo out k ++ out k) 10 10 rfl (by rfl) (by rfl) HO6.out HB6.out.size (by rw [List.length_append]; omega) ?_))
      intro v7 w7 ho7 hg7 hb7
      rw [← List.append_assoc, ← outTo_succ] at ho7
      have HD7 := Lib.hid (HD6.out.own HO6.out hg7 (by decide) (by decide))
      have HB7 := Lib.hid (HB6.out.trans hb7)
      have HK7 := Lib.hid (HK6.out.grown hg7 (own_blk_ne HO6.out HK6.out (by decide)).symm)
      have HO7 := Lib.hid ho7
      clear ho7 hg7 hb7 HB6 HO6 HK6 HD6
      go_wp2_with fail
      go_roundg g1
      case measure => omega
      case rel => exact ⟨k + 1, trivial, by omega, by go_num, by omega, HB7, HD7, HO7, HK7⟩
    · obtain rfl : k = ls.length := by omega
      obtain ⟨A8, c8, hk8, hi8, hc8, hm8, _⟩ := HD.out
      have q0 : wr.cell? ⟨td, 0, none⟩ = some (.slice A8 (st ls.length).1.length c8) := hk8.cell 0
      have HIT := Lib.hid (Tryz.strconv_Itoa_small (st ls.length).1.length hend wr)
      have hcat : ((⟨#[97, 110, 103, 108, 101, 115, 32]⟩ : ByteArray) ++ ⟨(Lib.decDigits (st ls.length).1.length).toArray⟩) ++ ⟨#[10]⟩ = btj ([97, 110, 103, 108, 101, 115, 32] ++ Lib.decDigits (st ls.length).1.length ++ [10]) := by
        apply ByteArray.ext; apply Array.ext'
        simp [ByteArray.data_append]
      have HCAT := Lib.hid hcat
      have hol := HOL.out ls.length
      have hdl : (Lib.decDigits (st ls.length).1.length).length ≤ 2 := by
        by_cases h10 : (st ls.length).1.length < 10
        · rw [Lib.decDigits_one h10]; simp
        · rw [Lib.decDigits_two h10 hend]; simp
      clear hk8 hi8 hc8 hm8 hcat
      go_wp2_with fail
      refine HIT.out.mono ?_
      rintro e w9 ⟨rfl, rfl⟩
      go_wp2_with (at_builtin; go_loud (refine wpList_appText (W := w9) rfl _ _ rfl w.heap.size _ (outTo out ls.length) ([97, 110, 103, 108, 101, 115, 32] ++ Lib.decDigits (st ls.length).1.length ++ [10]) (by rfl) (congrArg Value.string HCAT.out) HO.out HB.out.size (by rw [List.length_append, List.length_append]; simp; omega) ?_))
      intro v6 w6 ho6 hg6 hb6
      have HB6 := Lib.hid (HB.out.trans hb6)
      have HO6 := Lib.hid (run_ownB_string ho6)
      clear ho6 hg6 hb6
      go_wp2_with fail
      rw [HO6.out]
      go_wp2_with fail
      go_ret
      exact ⟨rfl, HB6.out⟩
set_option maxHeartbeats 400000 in
theorem impl_Execute_long (t : ByteArray) (h : 300 < t.size) (w : World) :
    Calls Tryz.prog 12 #[.string t] w fun e w' => e = .returned (.string (btj longT)) ∧ Below w.heap.size w w' := by
  have d1 : decide ((300 : Int) < (t.size : Int)) = true := by simp; omega
  clear h
  go_enter Tryz.func12, Tryz.ntmps12
  go_wp2_with fail
  go_ret
  exact ⟨rfl, Below.refl _ _⟩
theorem cut_last (c : UInt8) (t : List UInt8) : ∃ z, cutL c t = (cutL c t).dropLast ++ [z] := ⟨_, (List.dropLast_concat_getLast (cutL_ne c t)).symm⟩
theorem cut_scr (t : List UInt8) : ∃ z, t = scr (cutL 10 t).dropLast ++ z ∧ (10 : UInt8) ∉ z := by
  obtain ⟨z, hz⟩ := cut_last 10 t
  refine ⟨z, ?_, ?_⟩
  · rw [← join_scrZ, ← hz, cutL_join]
  · exact cutL_no 10 t z (by rw [hz]; simp)
theorem impl_ExecuteG (m : Int) (t : List UInt8) (w : World) (hm : w.cell? ⟨0, 0, none⟩ = some (.int .i64 m)) (h0 : 0 < w.heap.size) (hp : Pow w) :
    Calls Tryz.prog 12 #[.string (btj t)] w fun e w' => e = .returned (.string (btj (exeT t))) ∧ Below w.heap.size w w' := by
  unfold exeT
  by_cases hl : 300 < t.length
  · rw [if_pos hl]
    exact impl_Execute_long (btj t) (by rw [btj_size]; exact hl) w
  · rw [if_neg hl]
    obtain ⟨z, hz, hzn⟩ := cut_scr t
    have hno := cutL_no 10 t
    have hlen := cutL_len 10 t
    have hml : ∀ x ∈ (cutL 10 t).dropLast, x.length ≤ 300 := fun x hx => Nat.le_trans (cutL_mem_len (c := 10) (t := t) (List.dropLast_subset _ hx)) (by omega)
    have hno2 : ∀ x ∈ (cutL 10 t).dropLast, (10 : UInt8) ∉ x := fun x hx => hno x (List.dropLast_subset _ hx)
    have hl2 : (cutL 10 t).dropLast.length ≤ 300 := by rw [List.length_dropLast]; omega
    obtain ⟨ls, hls⟩ : ∃ ls, ls = (cutL 10 t).dropLast := ⟨_, rfl⟩
    rw [← hls] at hz hml hno2 hl2 ⊢
    have key := impl_ExecuteZ m ls z (by rw [← hz]; omega) hno2 hzn hl2 (stA ls) (outA ls) rfl (by have := (stA_ok ls ls.length).len.1; omega) (fun k => Nat.le_trans (outA_len ls k) (by omega)) w hm h0
      (fun k x hk td W htd hbW hD => by
        have := impl_lineL td m (stA ls k) x (stA_ok ls k) W ((hbW.cell (p := ⟨0, 0, none⟩) h0).trans hm) (Nat.lt_of_lt_of_le h0 hbW.size) (hp.below hbW) hD (hml x (List.mem_of_getElem? hk))
        rw [stA_succ hk, outA_at hk]
        exact this)
    rw [← hz] at key
    exact key
end Go.Proofs.YtkdlipbegdiaaaaGreatDoor
namespace Go.Proofs.YtkdlipbegdiaaaaGreatDoor
open Go.RowKit
theorem lineW_2 {s : Dk} {x : List UInt8} {r : List (List UInt8)} (h0 : cmdIs 0 x r.length = false) (h1 : cmdIs 1 x r.length = false) : lineW s x r = (s, askT s x r) := by
  unfold lineW
  rw [ifF h0, ifF h1]
theorem spec_l7Line (A : Option Addr) (c0 b off c : Nat) (s : Dk) (x : List UInt8) (r : List (List UInt8)) (w : World) (hs : DkOk s) (hV : DkV w A c0 s) (hW : WordsR w b off (x :: r)) (hc : (x :: r).length ≤ c) (hcm : c ≤ maxLen) (hr : r.length ≤ 300) (hy : ∀ y ∈ r, y.length ≤ 300) :
    Calls Tryz.prog 31 #[.agg #[.slice A s.1.length c0, .string (btj s.2)], .slice (some ⟨b, off, none⟩) (r.length + 1) c] w (LineR w (lineW s x r).1 (lineW s x r).2) := by
  cases h0 : cmdIs 0 x r.length with
  | true =>
    rw [lineW_0 h0]
    obtain ⟨e, hle, _⟩ := cmdIs_parts h0
    subst e
    cases r with
    | nil => exact absurd hle (by decide)
    | cons y q =>
      cases hv : avB (numsV (y :: q)) with
      | true => exact spec_l7Line_angles A c0 b off c s y q w hV hW (by simpa using hc) hcm (by simp at hr; omega) _ _ (Or.inl ⟨hv, by simp, by simp⟩)
      | false => exact spec_l7Line_angles A c0 b off c s y q w hV hW (by simpa using hc) hcm (by simp at hr; omega) _ _ (Or.inr ⟨hv, by simp, by simp⟩)
  | false =>
    cases h1 : cmdIs 1 x r.length with
    | true =>
      rw [lineW_1 h1]
      obtain ⟨e, hle, hmo⟩ := cmdIs_parts h1
      subst e
      obtain ⟨y, rfl⟩ := one_of (show r.length = 1 from Nat.le_antisymm hmo hle)
      change Calls _ _ _ _ (LineR w (if (decide (1 ≤ s.1.length) && fvB y s.1.length) = true then ((s.1, y), okT) else (s, noT)).1 (if (decide (1 ≤ s.1.length) && fvB y s.1.length) = true then ((s.1, y), okT) else (s, noT)).2)
      obtain ⟨bb, hv⟩ : ∃ bb, (decide (1 ≤ s.1.length) && fvB y s.1.length) = bb := ⟨_, rfl⟩
      rw [hv]
      cases bb with
      | true =>
        rw [Bool.and_eq_true, decide_eq_true_eq] at hv
        exact spec_l7Line_folds A c0 b off c s y w hs.len.1 hV hW (by simpa using hc) hcm (hy y (by simp)) _ _ (Or.inl ⟨by intro e; rw [e] at hv; simp at hv, hv.2, by simp, by simp⟩)
      | false =>
        refine spec_l7Line_folds A c0 b off c s y w hs.len.1 hV hW (by simpa using hc) hcm (hy y (by simp)) _ _ (Or.inr ⟨?_, by simp, by simp⟩)
        rcases Nat.eq_zero_or_pos s.1.length with h | h
        · exact Or.inl (List.eq_nil_of_length_eq_zero h)
        · rw [decide_eq_true (show 1 ≤ s.1.length from h), Bool.true_and] at hv
          exact Or.inr hv
    | false =>
      rw [lineW_2 h0 h1]
      exact spec_l7Line_ask A c0 b off c s x r w hs hV hW hc hcm hr hy h0 h1
/-- a line's words as the cut hands them out -/
theorem spec_l7LineL (A : Option Addr) (c0 : Nat) (s : Dk) (l : List UInt8) (w : World) (B : Nat) (v : Value) (hs : DkOk s) (hV : DkV w A c0 s) (ho : OwnTx w B v (cutL 32 l)) (hl : l.length ≤ 300) :
    Calls Tryz.prog 31 #[.agg #[.slice A s.1.length c0, .string (btj s.2)], v] w (LineR w (lineL s l).1 (lineL s l).2) := by
  obtain ⟨A1, c1, rfl, hS, hc1, hm1⟩ := OwnTx.form ho
  have h1 := cutL_len 32 l
  have h2 : ∀ y ∈ cutL 32 l, y.length ≤ 300 := fun y hy => Nat.le_trans (cutL_mem_len hy) hl
  unfold lineL
  obtain ⟨x, r, e⟩ := cutL_cons 32 l
  rw [e] at hS hc1 h1 h2 ⊢
  obtain ⟨b, off, rfl, hb, hx⟩ := hS (by simp)
  exact spec_l7Line A c0 b off c1 s x r w hs hV ⟨hb, hx⟩ hc1 hm1 (by simp at h1; omega) fun y hy => h2 y (by simp [hy])
/-- the lines of a script in memory -/
def LinesM (w : World) (A : Option Addr) (t : Nat) (ls : List (List UInt8)) : Prop :=
  ∀ k x, ls[k]? = some x → ∃ b off, A = some ⟨b, off, none⟩ ∧ b ≠ t ∧ b < w.heap.size ∧ w.cell? ⟨b, off + k, none⟩ = some (.string (btj x))
theorem LinesM.below {w w' : World} {A : Option Addr} {t : Nat} {ls : List (List UInt8)} (h : LinesM w A t ls) (hb : Below w.heap.size w w') : LinesM w' A t ls := by
  intro k x hk
  obtain ⟨b, off, e, h1, h2, h3⟩ := h k x hk
  exact ⟨b, off, e, h1, Nat.lt_of_lt_of_le h2 hb.size, (hb.cell (p := ⟨b, off + k, none⟩) h2).trans h3⟩
theorem LinesM.set2 {w : World} {A : Option Addr} {t : Nat} {ls : List (List UInt8)} (h : LinesM w A t ls) (u v : Value) : LinesM ((w.setCell ⟨t, 0, none⟩ u).setCell ⟨t, 1, none⟩ v) A t ls := by
  intro k x hk
  obtain ⟨b, off, e, h1, h2, h3⟩ := h k x hk
  have hg := grown_set2 w t u v
  exact ⟨b, off, e, h1, Nat.lt_of_lt_of_le h2 hg.size, (hg.cell_far ⟨b, off + k, none⟩ h2 (fun e => h1 (Option.some.inj e))).trans h3⟩
/-- the desk of the reference between two lines -/
def DeskR (w : World) (t : Nat) (s : Dk) : Prop := ∃ A c, Blk w t 53 #[.slice A s.1.length c, .string (btj s.2)] ∧ DkV w A c s
theorem spec_Execute_long (t : List UInt8) (h : 300 < t.length) (w : World) :
    Calls Tryz.prog 14 #[.string (btj t)] w fun e w' => e = .returned (.string (btj longT)) ∧ Below w.heap.size w w' := by
  have d0 : (300 : Int) < ((btj t).size : Int) := by rw [btj_size]; omega
  obtain ⟨S, hS⟩ : ∃ S, S = btj t := ⟨_, rfl⟩
  rw [← hS] at d0 ⊢
  have d1 : decide ((300 : Int) < (S.size : Int)) = true := decide_eq_true d0
  clear h hS
  go_enter Tryz.func14, Tryz.ntmps14
  go_wp2_with fail
  go_ret
  exact ⟨rfl, Below.refl _ _⟩
theorem ints_farS {w : World} {t : Nat} {ty : TypeId} {A A1 : Option Addr} {xs : List Int} {n1 c1 : Nat} {z : ByteArray} (hk : Blk w t ty #[.slice A1 n1 c1, .string z]) (h : Ints w A xs) (u v : Value) : Ints ((w.setCell ⟨t, 0, none⟩ u).setCell ⟨t, 1, none⟩ v) A xs := by
  intro hn
  obtain ⟨b, off, rfl, hb, hx⟩ := h hn
  have hne : some t ≠ some b := by
    intro e
    have e := Option.some.inj e
    subst e
    obtain ⟨x, r, rfl⟩ := List.exists_cons_of_ne_nil hn
    have h1 := hx 0 x rfl
    rw [hk.cell] at h1
    have h2 : off = 0 ∨ off = 1 ∨ 2 ≤ off := by omega
    rcases h2 with rfl | rfl | h2
    · simp at h1
    · simp at h1
    · rw [Array.getElem?_eq_none (by simp; omega)] at h1; cases h1
  exact ints_far (fun _ => ⟨b, off, rfl, hb, hx⟩) (grown_set2 w t u v) hne hn
set_option maxHeartbeats 4000000 in
set_option maxRecDepth 100000 in
theorem spec_ExecuteG (t : List UInt8) (hl : t.length ≤ 300) (w : World) :
    Calls Tryz.prog 14 #[.string (btj t)] w fun e w' => e = .returned (.string (btj (scrT (cutL 10 t).dropLast))) ∧ Below w.heap.size w w' := by
  obtain ⟨ls, hls⟩ : ∃ ls, ls = (cutL 10 t).dropLast := ⟨_, rfl⟩
  have hP := cutL_len 10 t
  have hPn : (cutL 10 t).length = ls.length + 1 := by rw [hls, List.length_dropLast]; have := List.length_pos_iff.2 (cutL_ne 10 t); omega
  have hgets : ∀ (k : Nat) (x : List UInt8), ls[k]? = some x → (cutL 10 t)[k]? = some x := by
    intro k x h
    rw [hls, List.getElem?_dropLast] at h
    split at h
    · exact h
    · cases h
  have hmem : ∀ (k : Nat) (x : List UInt8), ls[k]? = some x → x.length ≤ 300 := fun k x h => Nat.le_trans (cutL_mem_len (c := 10) (t := t) (List.mem_of_getElem? (hgets k x h))) hl
  have HG := Lib.hid (And.intro hgets hmem)
  have HLN : Hid (ls.length ≤ 300) := (by omega : ls.length ≤ 300)
  have HPN := Lib.hid hPn
  rw [← hls]
  have HCT := Lib.hid (fun (x : List UInt8) (h : x.length ≤ 1000) (c : UInt8) (W : World) => spec_l7Cut x c W h)
  have hsz : (btj t).size = t.length := btj_size t
  have d1 : ¬ ((300 : Int) < ((btj t).size : Int)) := by rw [hsz]; omega
  have HL := Lib.hid hl
  obtain ⟨S, hS⟩ : ∃ S, S = btj t := ⟨_, rfl⟩
  have HC10 := Lib.hid (fun (W : World) => spec_l7Cut t 10 W (by omega))
  rw [← hS] at d1 HC10 ⊢
  clear hsz hS hl hls hP hPn hgets hmem
  go_enter Tryz.func14, Tryz.ntmps14
  go_wp2_with fail
  obtain ⟨t3, ht3⟩ : ∃ t3, t3 = w.heap.size + 1 := ⟨_, rfl⟩
  obtain ⟨w2, hw2⟩ : ∃ x, x = (w.alloc (.cells #[] 3)).alloc (.cells #[.slice (some ⟨w.heap.size, 0, none⟩) 0 0, .string ⟨#[]⟩] 53) := ⟨_, rfl⟩
  have HB2 : Hid (Below w.heap.size w w2) := by show Below _ _ _; rw [hw2]; exact ((Below.refl _ _).alloc (Nat.le_refl _) _).alloc (by simp) _
  have HK2 : Hid (Blk w2 t3 53 #[.slice (some ⟨w.heap.size, 0, none⟩) 0 0, .string ⟨#[]⟩]) := by
    show Blk _ _ _ _
    have := Blk.new (w.alloc (.cells #[] 3)) 53 #[.slice (some ⟨w.heap.size, 0, none⟩) 0 0, .string ⟨#[]⟩]
    rw [hw2, ht3]; simpa using this
  have HT3 : Hid (w.heap.size ≤ t3) := by show _ ≤ _; omega
  rw [← hw2, ← ht3]
  clear hw2 ht3
  refine (HC10.out w2).mono ?_
  rintro e w3 ⟨v5, rfl, ho3, hb3⟩
  have HB3 := Lib.hid (HB2.out.trans (hb3.mono HB2.out.size))
  have HK3 := Lib.hid (HK2.out.below hb3 HK2.out.lt)
  have HBase : Hid (t3 < w2.heap.size) := HK2.out.lt
  have hPn := HPN.out
  have hlsn := HLN.out
  obtain ⟨A5, c5, rfl, hS5, hc5, hm5⟩ := OwnTx.form ho3
  rw [hPn] at ho3 hc5 ⊢
  have HL3 : Hid (LinesM w3 A5 t3 ls) := (by
    intro k x hk
    obtain ⟨b, off, e, hlt, hx⟩ := hS5 (cutL_ne 10 t)
    refine ⟨b, off, e, ?_, hlt, hx k x (HG.out.1 k x hk)⟩
    have := (ho3.lt b (by rw [e]; rfl)).1
    have := HBase.out
    omega : LinesM w3 A5 t3 ls)
  have HD3 : Hid (DeskR w3 t3 (stA ls 0)) := ⟨_, _, HK3.out, Ints.nil _ _, Nat.le_refl _, by unfold maxLen; omega⟩
  clear hPn ho3 hb3 HB2 HK2 HC10 HL hS5 HK3 HBase
  unfold maxLen at hm5
  go_wp2_with fail
  go_loopg [4, 6, 7, 8] (ls.length + 1) (fun gg s4 s6 s7 s8 wr => ∃ (k : Nat), s7 = s7 ∧ s8 = s8 ∧ k ≤ ls.length ∧ s6 = .int .i64 k ∧ s4 = .string (btj (outTo (outA ls) k)) ∧ ls.length - k < gg ∧ Hid (Below w.heap.size w wr) ∧ Hid (LinesM wr A5 t3 ls) ∧ Hid (DeskR wr t3 (stA ls k)))
  case atStart => exact ⟨0, rfl, rfl, Nat.zero_le _, rfl, rfl, by omega, HB3, HL3, HD3⟩
  case round =>
    clear HB3 HL3 HD3
    obtain ⟨k, _, _, hk, rfl, rfl, hg, HB, HLM, HD⟩ := hrel
    cases gk with
    | zero => omega
    | succ g1 =>
    by_cases hlt : k < ls.length
    · have k1 : ((k : Int) + 1) < ((ls.length : Int) + 1) := by omega
      have k2 : (k : Int) < ((ls.length : Int) + 1) := by omega
      have k0 : (0 : Int) ≤ (k : Int) := by omega
      have iw : IntKind.i64.wrap ((k : Int) + 1) = (k : Int) + 1 := IntWalk.i64_in _ (by omega)
      obtain ⟨x, hx⟩ : ∃ x, x = ls[k] := ⟨_, rfl⟩
      have hget : ls[k]? = some x := by rw [hx]; exact List.getElem?_eq_getElem hlt
      have hxl := HG.out.2 k x hget
      obtain ⟨b, off, rfl, hbt, hbl, hcx⟩ := HLM.out k x hget
      obtain ⟨A0, c0, hkD, hVD⟩ := HD.out
      have HQ : Hid (∀ W', Below wr.heap.size wr W' → W'.cell? ⟨b, off + k, none⟩ = some (.string (btj x)) ∧ W'.cell? ⟨t3, 0, none⟩ = some (.slice A0 (stA ls k).1.length c0) ∧ W'.cell? ⟨t3, 1, none⟩ = some (.string (btj (stA ls k).2))) :=
        (fun W' hb => ⟨(hb.cell (p := ⟨b, off + k, none⟩) hbl).trans hcx, (hkD.below hb hkD.lt).cell 0, (hkD.below hb hkD.lt).cell 1⟩ : ∀ W', Below wr.heap.size wr W' → _)
      have q0 : wr.cell? ⟨t3, 0, none⟩ = some (.slice A0 (stA ls k).1.length c0) := hkD.cell 0
      have q1 : wr.cell? ⟨t3, 1, none⟩ = some (.string (btj (stA ls k).2)) := hkD.cell 1
      have HCA := Lib.hid (fun (W : World) => spec_l7Cut x 32 W (by omega))
      have HLA := Lib.hid (fun (v : Value) (B : Nat) (W : World) (hb : Below wr.heap.size wr W) (ho : OwnTx W B v (cutL 32 x)) => spec_l7LineL A0 c0 (stA ls k) x W B v (stA_ok ls k) (hVD.below hb) ho hxl)
      have HKD := Lib.hid hkD
      have hl3 : t3 < wr.heap.size := hkD.lt
      have hstep := stA_succ hget
      have hout := outA_at hget
      rw [← hstep, ← hout] at HLA
      clear hstep hout hx hxl hkD hVD
      obtain ⟨s, hs⟩ : ∃ s, s = stA ls k := ⟨_, rfl⟩
      have HS := Lib.hid hs
      rw [← hs] at HQ q0 q1 HLA HKD
      clear hs
      have H0 := Lib.hid (Below.refl wr.heap.size wr)
      have hol := outTo_len (out := outA ls) (fun k => Nat.le_trans (outA_len ls k) (by omega)) k
      have hol2 : (outTo (outA ls) k).length ≤ 4000000 := by omega
      have houk := outA_len ls k
      clear hol
      clear hget
      go_upto_region 9 with (fail)
      go_region_law ((go_simp; first
        | (go_at_call 30; refine (HCA.out _).mono ?_; rintro e w5 ⟨v, rfl, ho5, hb5⟩
           first
             | have hB5 : Below wr.heap.size wr w5 := (below_drewN H0.out _).trans hb5
             | (have hB5 : Below wr.heap.size wr w5 := ((below_drewN H0.out _).alloc (Nat.le_refl _) _).trans (hb5.mono (by simp))
                have hk5 : Blk w5 wr.heap.size 53 #[.slice none 0 0, .string ⟨#[]⟩] := (Blk.new (wr.drewN _) _ _).below hb5 (by simp))
           obtain ⟨r0, r1, r2⟩ := HQ.out _ hB5
           have l5 : t3 < w5.heap.size := Nat.lt_of_lt_of_le hl3 hB5.size
           have lb5 : b < w5.heap.size := Nat.lt_of_lt_of_le hbl hB5.size)
        | (go_at_call 31
           first
             | (refine (HLA.out _ _ _ hB5 ho5).mono ?_
                rintro e w6 ⟨A6, c6, rfl, hV6, hB6⟩
                have hBB := hB5.trans (hB6.mono hB5.size)
                first
                  | (have hk6 := hk5.below hB6 hk5.lt
                     have e60 : w6.cell? ⟨wr.heap.size, 0, none⟩ = some (.slice none 0 0) := hk6.cell 0
                     have e61 : w6.cell? ⟨wr.heap.size, 1, none⟩ = some (.string ⟨#[]⟩) := hk6.cell 1
                     have z60 : w6.frozen? ⟨wr.heap.size, 0, none⟩ = false := hk6.frozen 0
                     have z61 : w6.frozen? ⟨wr.heap.size, 1, none⟩ = false := hk6.frozen 1)
                  | skip)
             | (refine (HLA.out _ _ _ (hB5.alloc hB5.size _) (own_belowTx ho5 ((Below.refl _ _).alloc (Nat.le_refl _) _))).mono ?_
                rintro e w6 ⟨A6, c6, rfl, hV6, hB6⟩
                have hBB := (hB5.alloc hB5.size _).trans (hB6.mono (by have := hB5.size; simp; omega))
                have hk6 := (Blk.new w5 _ _).below hB6 (by simp)
                have e60 : w6.cell? ⟨w5.heap.size, 0, none⟩ = some (.slice none 0 0) := hk6.cell 0
                have e61 : w6.cell? ⟨w5.heap.size, 1, none⟩ = some (.string ⟨#[]⟩) := hk6.cell 1
                have z60 : w6.frozen? ⟨w5.heap.size, 0, none⟩ = false := hk6.frozen 0
                have z61 : w6.frozen? ⟨w5.heap.size, 1, none⟩ = false := hk6.frozen 1))))
      all_goals first
        | (obtain ⟨W9, hW9⟩ : ∃ W9, W9 = w6.alloc (.cells #[.slice A6 (stA ls (k + 1)).1.length c6, .string (btj (stA ls (k + 1)).2)] 53) := ⟨_, rfl⟩
           rw [← hW9]
           obtain ⟨g9, hg9⟩ : ∃ g, g = w6.heap.size := ⟨_, rfl⟩
           have HK9 : Hid (Blk W9 g9 53 #[.slice A6 (stA ls (k + 1)).1.length c6, .string (btj (stA ls (k + 1)).2)]) := by
             show Blk _ _ _ _
             rw [hW9, hg9]; exact Blk.new w6 _ _
           have HB9 : Hid (Below wr.heap.size wr W9) := by
             show Below _ _ _
             rw [hW9]; exact hBB.alloc hBB.size _
           have HV9 : Hid (DkV W9 A6 c6 (stA ls (k + 1))) := by
             show DkV _ _ _ _
             rw [hW9]; exact hV6.below ((Below.refl _ _).alloc (Nat.le_refl _) _)
           rw [← hg9]
           clear hW9 hg9)
        | (obtain ⟨W9, hW9⟩ : ∃ W9, W9 = (w6.setCell ⟨w5.heap.size, 0, none⟩ (.slice A6 (stA ls (k + 1)).1.length c6)).setCell ⟨w5.heap.size, 1, none⟩ (.string (btj (stA ls (k + 1)).2)) := ⟨_, rfl⟩
           rw [← hW9]
           obtain ⟨g9, hg9⟩ : ∃ g, g = w5.heap.size := ⟨_, rfl⟩
           have HK9 : Hid (Blk W9 g9 53 #[.slice A6 (stA ls (k + 1)).1.length c6, .string (btj (stA ls (k + 1)).2)]) := by
             show Blk _ _ _ _
             rw [hW9, hg9]; exact blk_set2 hk6
           have HB9 : Hid (Below wr.heap.size wr W9) := by
             show Below _ _ _
             rw [hW9]; exact hBB.trans (below_set2 w6 _ _ (hB5.size))
           have HV9 : Hid (DkV W9 A6 c6 (stA ls (k + 1))) := by
             show DkV _ _ _ _
             rw [hW9]; exact ⟨ints_farS hk6 hV6.1 _ _, hV6.2⟩
           rw [← hg9]
           clear hW9 hg9)
        | (obtain ⟨W9, hW9⟩ : ∃ W9, W9 = (w6.setCell ⟨wr.heap.size, 0, none⟩ (.slice A6 (stA ls (k + 1)).1.length c6)).setCell ⟨wr.heap.size, 1, none⟩ (.string (btj (stA ls (k + 1)).2)) := ⟨_, rfl⟩
           rw [← hW9]
           obtain ⟨g9, hg9⟩ : ∃ g, g = wr.heap.size := ⟨_, rfl⟩
           have HK9 : Hid (Blk W9 g9 53 #[.slice A6 (stA ls (k + 1)).1.length c6, .string (btj (stA ls (k + 1)).2)]) := by
             show Blk _ _ _ _
             rw [hW9, hg9]; exact blk_set2 hk6
           have HB9 : Hid (Below wr.heap.size wr W9) := by
             show Below _ _ _
             rw [hW9]; exact hBB.trans (below_set2 w6 _ _ (Nat.le_refl _))
           have HV9 : Hid (DkV W9 A6 c6 (stA ls (k + 1))) := by
             show DkV _ _ _ _
             rw [hW9]; exact ⟨ints_farS hk6 hV6.1 _ _, hV6.2⟩
           rw [← hg9]
           clear hW9 hg9)
      all_goals
        have hb9 := HB9.out
        have hkt := HKD.out.below hb9 hl3
        have y0 : W9.cell? ⟨t3, 0, none⟩ = some (.slice A0 s.1.length c0) := hkt.cell 0
        have y1 : W9.cell? ⟨t3, 1, none⟩ = some (.string (btj s.2)) := hkt.cell 1
        have x0 : W9.frozen? ⟨t3, 0, none⟩ = false := hkt.frozen 0
        have x1 : W9.frozen? ⟨t3, 1, none⟩ = false := hkt.frozen 1
        have p0 : W9.cell? ⟨g9, 0, none⟩ = some (.slice A6 (stA ls (k + 1)).1.length c6) := HK9.out.cell 0
        have p1 : W9.cell? ⟨g9, 1, none⟩ = some (.string (btj (stA ls (k + 1)).2)) := HK9.out.cell 1
        have HB10 : Hid (Below w.heap.size w ((W9.setCell ⟨t3, 0, none⟩ (.slice A6 (stA ls (k + 1)).1.length c6)).setCell ⟨t3, 1, none⟩ (.string (btj (stA ls (k + 1)).2)))) := (HB.out.trans (hb9.mono HB.out.size)).trans (below_set2 W9 _ _ HT3.out)
        have HL10 : Hid (LinesM ((W9.setCell ⟨t3, 0, none⟩ (.slice A6 (stA ls (k + 1)).1.length c6)).setCell ⟨t3, 1, none⟩ (.string (btj (stA ls (k + 1)).2))) (some ⟨b, off, none⟩) t3 ls) := (HLM.out.below hb9).set2 _ _
        have HD10 : Hid (DeskR ((W9.setCell ⟨t3, 0, none⟩ (.slice A6 (stA ls (k + 1)).1.length c6)).setCell ⟨t3, 1, none⟩ (.string (btj (stA ls (k + 1)).2))) t3 (stA ls (k + 1))) := ⟨A6, c6, blk_set2 hkt, ints_farS hkt HV9.out.1 _ _, HV9.out.2⟩
        have HO10 : Hid (btj (outTo (outA ls) k) ++ btj (outA ls k ++ [10]) = btj (outTo (outA ls) (k + 1))) := by
          show _ = _
          rw [outTo_succ]
          apply ByteArray.ext; apply Array.ext'
          simp [btj, ByteArray.data_append]
        clear hb9 hkt HK9 HB9 HV9 hV6 hB6 hBB HB HD HLM HKD HLA HQ HCA r0 r1 r2 l5 lb5 hB5 hb5 ho5 q0 q1 hcx
        go_wp2_with fail
        go_roundg g1
        case measure => omega
        case rel => exact ⟨k + 1, trivial, trivial, by omega, by go_num, congrArg Value.string HO10.out, by omega, HB10, HL10, HD10⟩
    · obtain rfl : k = ls.length := by omega
      obtain ⟨A0, c0, hkD, hVD⟩ := HD.out
      have q0 : wr.cell? ⟨t3, 0, none⟩ = some (.slice A0 (stA ls ls.length).1.length c0) := hkD.cell 0
      have q1 : wr.cell? ⟨t3, 1, none⟩ = some (.string (btj (stA ls ls.length).2)) := hkD.cell 1
      have hlen := (stA_ok ls ls.length).len.1
      have hol := outTo_len (out := outA ls) (fun k => Nat.le_trans (outA_len ls k) (by omega)) ls.length
      have hol2 : (outTo (outA ls) ls.length).length ≤ 4000000 := by omega
      have hdl : (Lib.decDigits (stA ls ls.length).1.length).length ≤ 6 := dec_len_le (by omega)
      clear hol
      have HDC := Lib.hid (fun (W : World) => spec_l6Dec 100 (stA ls ls.length).1.length (by omega) (by omega) W)
      have hE : ∀ n, ((btj (outTo (outA ls) ls.length) ++ (⟨#[97, 110, 103, 108, 101, 115, 32]⟩ : ByteArray)) ++ btj (Lib.decDigits n)) ++ ⟨#[10]⟩ = btj (outTo (outA ls) ls.length ++ endT n) := by
        intro n
        apply ByteArray.ext; apply Array.ext'
        simp [btj, endT, ByteArray.data_append]
      have HE := Lib.hid (hE (stA ls ls.length).1.length)
      have HF : Hid (scrT ls = outTo (outA ls) ls.length ++ endT (stA ls ls.length).1.length) := (rfl : _ = _)
      clear hE hkD hVD hlen
      go_wp2_with fail
      refine (HDC.out wr).mono ?_
      rintro e w9 ⟨rfl, hb9⟩
      have HB9 := Lib.hid (HB.out.trans (hb9.mono HB.out.size))
      clear hb9
      go_wp2_with fail
      rw [HE.out]
      go_ret
      rw [HF.out]
      exact ⟨rfl, HB9.out⟩
theorem spec_ExecuteT (t : List UInt8) (w : World) :
    Calls Tryz.prog 14 #[.string (btj t)] w fun e w' => e = .returned (.string (btj (exeT t))) ∧ Below w.heap.size w w' := by
  unfold exeT
  by_cases hl : 300 < t.length
  · rw [if_pos hl]
    exact spec_Execute_long t hl w
  · rw [if_neg hl]
    exact spec_ExecuteG t (by omega) w
end Go.Proofs.YtkdlipbegdiaaaaGreatDoor
