/- The program's Execute over lines, each told by what 'answer' does. No condition but sizes. A region that draws its order, by an invariant over what has come up. No program, no condition. A region that draws its order, told by what each of its values is. No program, no condition. -/
import Derived.Test.YtmohfibgefcefaaGreatDoorFnExecuteSheetP49
import Derived.Test.YtmohfibgefcefaaGreatDoorFnExecuteSheetP50
import Derived.Lib.AppendStr
import Derived.Deep.RegionHeld3
import Derived.Below
namespace Go.Proofs.YtmohfibgefcefaaGreatDoor
open Go.RowKit

/-- what the desk holds -/
def Desk (w : World) (td : Nat) (xs : List Int) (f : List UInt8) : Prop :=
  ∃ A c, Blk w td 68 #[.slice A xs.length c, .string (btj f)] ∧ Ints w A xs ∧ xs.length ≤ c ∧ c ≤ maxLen ∧ ∀ a, A = some a → ∃ cs z, w.heap[a.block]? = some (.cells cs 3 z)
/-- lines, each ended -/
def scr (ls : List (List UInt8)) : List UInt8 := ls.flatMap fun l => l ++ [10]
theorem join_scr (ls : List (List UInt8)) : joinC 10 (ls ++ [[]]) = scr ls := by
  induction ls with
  | nil => rfl
  | cons x r ih =>
    have : ∃ y q, r ++ [[]] = y :: q := by
      cases r with
      | nil => exact ⟨_, _, rfl⟩
      | cons y q => exact ⟨_, _, rfl⟩
    obtain ⟨y, q, e⟩ := this
    show joinC 10 (x :: (r ++ [[]])) = _
    rw [e] at ih ⊢
    show x ++ 10 :: joinC 10 (y :: q) = _
    rw [ih]; simp [scr]
/-- what a script has told behind so many lines -/
def outTo (out : Nat → List UInt8) (n : Nat) : List UInt8 := (List.range n).flatMap fun k => out k ++ [10]
theorem outTo_succ (out : Nat → List UInt8) (n : Nat) : outTo out (n + 1) = (outTo out n ++ out n) ++ [10] := by
  unfold outTo
  rw [List.range_succ, List.flatMap_append]; simp
theorem outTo_len {out : Nat → List UInt8} (h : ∀ k, (out k).length ≤ 10000) (n : Nat) : (outTo out n).length ≤ n * 10001 := by
  induction n with
  | zero => simp [outTo]
  | succ n ih => rw [outTo_succ]; have := h n; simp; omega
theorem byteVals_app (bs : List UInt8) (s : List UInt8) : byteVals bs ++ Go.Lib.strCells (btj s) = byteVals (bs ++ s) := by
  unfold byteVals; rw [List.map_append]; rfl
theorem wpList_appText {ops : Array Oper} {rest : List Oper} {o : Oper} {a : Act} {Q : Exit → Act → World → Prop} {W : World} (hgd : o.guard = none) (s x : Operand)
    (ho : o.op = .call { callee := .builtin .append, args := #[s, x], argTypes := #[22, 9] })
    (B : Nat) (v : Value) (bs : List UInt8) (t : List UInt8) (hs : a.eval s = v) (hx : a.eval x = .string (btj t)) (hown : OwnB W B v bs) (hB : B ≤ W.heap.size) (hn : bs.length + t.length ≤ 1000000000000)
    (h : ∀ v' w', OwnB w' B v' (bs ++ t) → W.grownBy w' v.ownBlock → Below B W w' → wpList Tryz.prog ops Q rest (a.put o.dst v') w') :
    wpList Tryz.prog ops Q (o :: rest) a W := by
  obtain ⟨i0, hi, hz0, hz1, hz2⟩ := info_parts Tryz.infoByte
  have hsz : (btj t).size = t.length := by show t.toArray.size = _; simp
  refine Go.Lib.wpList_append_own_string (P := Tryz.prog) W hgd s x 22 9 ho B 5 i0 Tryz.underlying22 Tryz.underlying9 hi hz0 hz1 hz2 v _ _ hs hown (btj t) hx (by rw [hsz]; unfold maxLen; omega) (by rw [hsz]; omega) hB ?_
  intro v' w' h1 h2 _
  rw [byteVals_app, hsz, ← List.length_append] at h1
  exact h v' w' h1 h2 ((Below.refl _ _).grown h2 hB fun k hk => (hown.lt k hk).1)
theorem own_keepE {w w' : World} {B : Nat} {e : TypeId} {z n : Nat} {v : Value} {xs : List Value} (h : w.ownsRow B e z v n xs) (hb : Below w.heap.size w w') : w'.ownsRow B e z v n xs :=
  h.kept (row := none) ⟨hb.os, hb.tape, hb.output, hb.size, fun i hi _ => hb.block i hi⟩ (by cases hv : v.ownBlock <;> simp)
theorem cell_blk {w w' : World} {b : Nat} (h : w'.heap[b]? = w.heap[b]?) (i : Nat) : w'.cell? ⟨b, i, none⟩ = w.cell? ⟨b, i, none⟩ := by
  unfold World.cell?
  simp only []
  rw [h]
theorem Desk.far {w w' : World} {td : Nat} {xs : List Int} {f : List UInt8} {row : Option Nat} (h : Desk w td xs f) (hg : w.grownBy w' row) (h1 : ∀ g, row = some g → ∃ cs t z, w.heap[g]? = some (.cells cs t z) ∧ t ≠ 68 ∧ t ≠ 3) : Desk w' td xs f := by
  obtain ⟨A, c, hk, hi, hc, hm, hty⟩ := h
  have hne : ∀ b cs t z, w.heap[b]? = some (.cells cs t z) → (t = 68 ∨ t = 3) → some b ≠ row := by
    intro b cs t z hb ht e
    obtain ⟨cs', t', z', h2, h3, h4⟩ := h1 b e.symm
    rw [hb] at h2
    injection h2 with h2
    injection h2 with _ h5
    subst h5
    rcases ht with rfl | rfl
    · exact h3 rfl
    · exact h4 rfl
  refine ⟨A, c, hk.grown hg (hne td _ _ _ hk (Or.inl rfl)), ?_, hc, hm, ?_⟩
  · intro hn
    obtain ⟨b, off, rfl, hb, hcell⟩ := hi hn
    obtain ⟨cs, z, hh⟩ := hty _ rfl
    exact ⟨b, off, rfl, Nat.lt_of_lt_of_le hb hg.size, fun j x hj => (cell_blk (hg.block b hb (hne b _ _ _ hh (Or.inr rfl))) _).trans (hcell j x hj)⟩
  · intro a ha
    obtain ⟨cs, z, hh⟩ := hty a ha
    exact ⟨cs, z, (hg.block a.block (Array.getElem?_eq_some_iff.1 hh).1 (hne _ _ _ _ hh (Or.inr rfl))).trans hh⟩
theorem Desk.own {w w' : World} {td : Nat} {xs : List Int} {f : List UInt8} {B : Nat} {e : TypeId} {z n : Nat} {v : Value} {L : List Value} (h : Desk w td xs f) (ho : w.ownsRow B e z v n L) (hg : w.grownBy w' v.ownBlock) (h1 : e ≠ 68) (h2 : e ≠ 3) : Desk w' td xs f := by
  refine h.far hg fun g hgg => ?_
  rcases ho.2 with ⟨rfl, _⟩ | ⟨g', cap, cur, rfl, _, hg', _⟩
  · cases hgg
  · cases hgg
    exact ⟨_, _, _, hg', h1, h2⟩
theorem Desk.below {w w' : World} {td : Nat} {xs : List Int} {f : List UInt8} (h : Desk w td xs f) (hb : Below w.heap.size w w') : Desk w' td xs f := by
  obtain ⟨A, c, hk, hi, hc, hm, hne⟩ := h
  exact ⟨A, c, hk.below hb hk.lt, hi.below hb, hc, hm, fun a ha => by
    obtain ⟨cs, z, hh⟩ := hne a ha
    exact ⟨cs, z, (hb.block a.block (Array.getElem?_eq_some_iff.1 hh).1).trans hh⟩⟩
theorem Desk.ne_ {w : World} {td : Nat} {xs : List Int} {f : List UInt8} {B : Nat} {e : TypeId} {z n : Nat} {v : Value} {L : List Value} (h : Desk w td xs f) (ho : w.ownsRow B e z v n L) (h1 : e ≠ 68) : v.ownBlock ≠ some td := by
  obtain ⟨A, c, hk, _⟩ := h
  exact own_blk_ne ho hk h1
theorem Desk.lt {w : World} {td : Nat} {xs : List Int} {f : List UInt8} (h : Desk w td xs f) : td < w.heap.size := by
  obtain ⟨A, c, hk, _⟩ := h
  exact hk.lt
set_option maxHeartbeats 4000000 in
set_option maxRecDepth 100000 in
theorem impl_Execute (m : Int) (ls : List (List UInt8)) (hl : (scr ls).length ≤ 300) (hx : ∀ x ∈ ls, (10 : UInt8) ∉ x) (hn : ls.length ≤ 300) (st : Nat → List Int × List UInt8) (out : Nat → List UInt8) (hs0 : st 0 = ([], [])) (hend : (st ls.length).1.length < 100) (hout : ∀ k, (out k).length ≤ 10000)
    (w : World) (hm : w.cell? ⟨0, 0, none⟩ = some (.int .i64 m)) (h0 : 0 < w.heap.size)
    (HA : ∀ k x, ls[k]? = some x → ∀ td W, w.heap.size ≤ td → Below w.heap.size w W → Desk W td (st k).1 (st k).2 → Calls Tryz.prog 37 #[.pointer (some ⟨td, 0, none⟩), .string (btj x)] W fun e w' => e = .returned (.string (btj (out k))) ∧ W.grownBy w' (some td) ∧ Desk w' td (st (k + 1)).1 (st (k + 1)).2) :
    Calls Tryz.prog 13 #[.string (btj (scr ls))] w fun e w' => e = .returned (.string (btj (outTo out ls.length ++ ([97, 110, 103, 108, 101, 115, 32] ++ Lib.decDigits (st ls.length).1.length ++ [10])))) ∧ Below w.heap.size w w' := by
  have hxa : ∀ x ∈ ls ++ [[]], (10 : UInt8) ∉ x := by
    intro x hx1
    rcases List.mem_append.1 hx1 with h | h
    · exact hx x h
    · rw [List.mem_singleton] at h; subst h; simp
  obtain ⟨L, hL⟩ : ∃ L, L = btj (scr ls) := ⟨_, rfl⟩
  have hLs : L.size = (scr ls).length := by rw [hL]; show (List.toArray _).size = _; simp
  have hcnt := count_join 10 (ls ++ [[]]) (by simp) hxa
  have hspl := split_join 10 (ls ++ [[]]) (by simp) hxa
  rw [join_scr, ← hL] at hcnt hspl
  have hc1 : Lib.countB L (btj [10]) = ls.length := by simp at hcnt; omega
  rw [hc1] at hspl
  have HSP : Hid (∀ W : World, W.cell? ⟨0, 0, none⟩ = some (.int .i64 m) → Calls Tryz.prog 36 #[.string L, .string ⟨#[10]⟩] W fun e w' => e = .returned (.slice (some ⟨W.heap.size, 0, none⟩) (ls.length + 1) (ls.length + 1)) ∧ w' = W.alloc (.cells (((ls ++ [[]]).map btj).map Value.string).toArray 9)) := by
    show ∀ W : World, _
    intro W hW
    have := Tryz.strings_Split L (btj [10]) m W (by omega) hW (Nat.le_refl 1)
    rw [hc1, hspl] at this
    exact this
  have HAA := Lib.hid HA
  have HOL := Lib.hid (fun k => outTo_len hout k)
  have HOU := Lib.hid hout
  have hLs2 : (L.size : Int) ≤ 300 := by omega
  rw [← hL]
  clear hxa hL hcnt hspl hc1 hx HA hout
  go_enter Tryz.func13, Tryz.ntmps13
  go_wp2_with fail
  obtain ⟨td, htd⟩ : ∃ td, td = w.heap.size := ⟨_, rfl⟩
  obtain ⟨w2, hw2⟩ : ∃ x, x = (w.alloc (.cells #[.slice none 0 0, .string ⟨#[]⟩] 68)).alloc (.cells #[] 5) := ⟨_, rfl⟩
  have hb2 : Below w.heap.size w w2 := by rw [hw2]; exact ((Below.refl _ _).alloc (Nat.le_refl _) _).alloc (by simp) _
  have hD2 : Desk w2 td (st 0).1 (st 0).2 := by
    rw [hs0]
    refine ⟨none, 0, ?_, Ints.nil _ _, Nat.le_refl _, by unfold maxLen; omega, fun a e => by cases e⟩
    rw [hw2, htd]; exact (Blk.new w _ _).alloc _
  have hO2 : OwnB w2 w.heap.size (.slice (some ⟨w.heap.size + 1, 0, none⟩) 0 0) (outTo out 0) := by
    have e : w.heap.size + 1 = (w.alloc (.cells #[.slice none 0 0, .string ⟨#[]⟩] 68)).heap.size := by simp
    rw [hw2, e]
    exact World.ownsRow_lit _ #[] 0 (by simp) (by unfold maxLen; omega) rfl
  have hm2 : w2.cell? ⟨0, 0, none⟩ = some (.int .i64 m) := (hb2.cell (p := ⟨0, 0, none⟩) h0).trans hm
  have HB2 := Lib.hid hb2
  have HD2 := Lib.hid hD2
  have HO2 := Lib.hid hO2
  have HTD : Hid (w.heap.size ≤ td) := Nat.le_of_eq htd.symm
  rw [← hw2, ← htd]
  clear hw2 hb2 hD2 hO2
  refine (HSP.out w2 hm2).mono ?_
  rintro e w3 ⟨rfl, hw3⟩
  have hb3 : Below w2.heap.size w2 w3 := by rw [hw3]; exact (Below.refl _ _).alloc (Nat.le_refl _) _
  have HB3 := Lib.hid (HB2.out.trans (hb3.mono HB2.out.size))
  have HD3 := Lib.hid (HD2.out.below hb3)
  have HO3 : Hid (OwnB w3 w.heap.size (.slice (some ⟨td + 1, 0, none⟩) 0 0) (outTo out 0)) := by
    show OwnB _ _ _ _
    rw [htd]; exact own_keepE HO2.out hb3
  have HK3 : Hid (Blk w3 w2.heap.size 9 (((ls ++ [[]]).map btj).map Value.string).toArray) := by show Blk _ _ _ _; rw [hw3]; exact Blk.new w2 _ _
  obtain ⟨lb, hlb⟩ : ∃ lb, lb = w2.heap.size := ⟨_, rfl⟩
  have HLB : Hid (td ≠ lb) := by show _ ≠ _; rw [hlb]; exact Nat.ne_of_lt HD2.out.lt
  rw [← hlb] at HK3 ⊢
  clear hw3 hb3 HB2 HD2 HO2 hlb HSP hm2 htd
  go_wp2_with fail
  go_loopg [4, 7, 22] (ls.length + 1) (fun gg s4 s7 s22 wr => ∃ (k : Nat), s7 = s7 ∧ k ≤ ls.length ∧ s22 = .int .i64 k ∧ ls.length - k < gg ∧ Hid (Below w.heap.size w wr) ∧ Hid (Desk wr td (st k).1 (st k).2) ∧ Hid (OwnB wr w.heap.size s4 (outTo out k)) ∧ Hid (Blk wr lb 9 (((ls ++ [[]]).map btj).map Value.string).toArray))
  case atStart => exact ⟨0, rfl, Nat.zero_le _, rfl, by omega, HB3, HD3, HO3, HK3⟩
  case round =>
    clear HB3 HD3 HO3 HK3
    obtain ⟨k, _, hk, rfl, hg, HB, HD, HO, HK⟩ := hrel
    cases gk with
    | zero => omega
    | succ g1 =>
    by_cases hlt : k < ls.length
    · have k1 : (k : Int) < (ls.length : Int) := by omega
      have k0 : (0 : Int) ≤ (k : Int) := by omega
      obtain ⟨x, hx⟩ : ∃ x, x = ls[k] := ⟨_, rfl⟩
      have hget : ls[k]? = some x := by rw [hx]; exact List.getElem?_eq_getElem hlt
      have n1 : wr.cell? ⟨lb, k, none⟩ = some (.string (btj x)) := by
        rw [HK.out.cell k]
        have : ((ls ++ [[]]).map btj).map Value.string = ls.map (fun x => Value.string (btj x)) ++ [Value.string (btj [])] := by simp
        rw [this]
        rw [List.getElem?_toArray, List.getElem?_append_left (by simpa using hlt), List.getElem?_map, hget]; rfl
      have HCA := Lib.hid (HAA.out k x hget td wr HTD.out HB.out HD.out)
      clear hx hget
      go_wp2_with fail
      refine HCA.out.mono ?_
      rintro e w5 ⟨rfl, hg5, hd5⟩
      have HB5 := Lib.hid (HB.out.grown hg5 HB.out.size (fun g e => by cases e; exact HTD.out))
      have HO5 := Lib.hid (HO.out.kept hg5 (Or.inr (HD.out.ne_ HO.out (by decide))))
      have HK5 := Lib.hid (HK.out.grown hg5 (fun e => HLB.out (Option.some.inj e).symm))
      have HD5 := Lib.hid hd5
      have hol := HOL.out k
      have houk := HOU.out k
      clear hg5 hd5 HB HO HK HD
      go_wp2_with (at_builtin; go_loud (refine wpList_appText (W := w5) rfl _ _ rfl w.heap.size _ (outTo out k) (out k) (by rfl) (by rfl) HO5.out HB5.out.size (by omega) ?_))
      intro v6 w6 ho6 hg6 hb6
      have HD6 := Lib.hid (HD5.out.own HO5.out hg6 (by decide) (by decide))
      have HB6 := Lib.hid (HB5.out.trans hb6)
      have HK6 := Lib.hid (HK5.out.grown hg6 (own_blk_ne HO5.out HK5.out (by decide)).symm)
      have HO6 := Lib.hid ho6
      clear ho6 hg6 hb6 HB5 HO5 HK5 HD5
      go_wp2_with (at_builtin; go_loud (refine wpList_pushB (W := w6) rfl _ _ rfl w.heap.size _ (outTo out k ++ out k) 10 10 rfl (by rfl) (by rfl) HO6.out HB6.out.size (by rw [List.length_append]; omega) ?_))
      intro v7 w7 ho7 hg7 hb7
      rw [← List.append_assoc, ← outTo_succ] at ho7
      have HD7 := Lib.hid (HD6.out.own HO6.out hg7 (by decide) (by decide))
      have HB7 := Lib.hid (HB6.out.trans hb7)
      have HK7 := Lib.hid (HK6.out.grown hg7 (own_blk_ne HO6.out HK6.out (by decide)).symm)
      have HO7 := Lib.hid ho7
      clear ho7 hg7 hb7 HB6 HO6 HK6 HD6
      go_wp2_with fail
      go_roundg g1
      case measure => omega
      case rel => exact ⟨k + 1, trivial, by omega, by go_num, by omega, HB7, HD7, HO7, HK7⟩
    · obtain rfl : k = ls.length := by omega
      obtain ⟨A8, c8, hk8, hi8, hc8, hm8, _⟩ := HD.out
      have q0 : wr.cell? ⟨td, 0, none⟩ = some (.slice A8 (st ls.length).1.length c8) := hk8.cell 0
      have HIT := Lib.hid (Tryz.strconv_Itoa_small (st ls.length).1.length hend wr)
      have hcat : ((⟨#[97, 110, 103, 108, 101, 115, 32]⟩ : ByteArray) ++ ⟨(Lib.decDigits (st ls.length).1.length).toArray⟩) ++ ⟨#[10]⟩ = btj ([97, 110, 103, 108, 101, 115, 32] ++ Lib.decDigits (st ls.length).1.length ++ [10]) := by
        apply ByteArray.ext; apply Array.ext'
        simp [ByteArray.data_append]
      have HCAT := Lib.hid hcat
      have hol := HOL.out ls.length
      have hdl : (Lib.decDigits (st ls.length).1.length).length ≤ 2 := by
        by_cases h10 : (st ls.length).1.length < 10
        · rw [Lib.decDigits_one h10]; simp
        · rw [Lib.decDigits_two h10 hend]; simp
      clear hk8 hi8 hc8 hm8 hcat
      go_wp2_with fail
      refine HIT.out.mono ?_
      rintro e w9 ⟨rfl, rfl⟩
      go_wp2_with (at_builtin; go_loud (refine wpList_appText (W := w9) rfl _ _ rfl w.heap.size _ (outTo out ls.length) ([97, 110, 103, 108, 101, 115, 32] ++ Lib.decDigits (st ls.length).1.length ++ [10]) (by rfl) (congrArg Value.string HCAT.out) HO.out HB.out.size (by rw [List.length_append, List.length_append]; simp; omega) ?_))
      intro v6 w6 ho6 hg6 hb6
      have HB6 := Lib.hid (HB.out.trans hb6)
      have HO6 := Lib.hid (run_ownB_string ho6)
      clear ho6 hg6 hb6
      go_wp2_with fail
      rw [HO6.out]
      go_wp2_with fail
      go_ret
      exact ⟨rfl, HB6.out⟩
end Go.Proofs.YtmohfibgefcefaaGreatDoor
namespace Go.Proofs.YtmohfibgefcefaaGreatDoor

theorem ready_set_lt {ops : Array Oper} {l : Array Bool} {i : Nat} (hi : i < ops.size) (h0 : l.getD i true = false) :
    (List.range ops.size).countP (fun k => !(l.setIfInBounds i true).getD k true) < (List.range ops.size).countP (fun k => !l.getD k true) := by
  have key : ∀ L : List Nat, (L.countP (fun k => !(l.setIfInBounds i true).getD k true) ≤ L.countP (fun k => !l.getD k true)) ∧ (i ∈ L → L.countP (fun k => !(l.setIfInBounds i true).getD k true) < L.countP (fun k => !l.getD k true)) := by
    intro L
    induction L with
    | nil => exact ⟨Nat.le_refl _, fun h => by cases h⟩
    | cons k r ih =>
      have hk : (!(l.setIfInBounds i true).getD k true) = true → (!l.getD k true) = true ∧ k ≠ i := by
        intro h
        by_cases e : i = k
        · subst e
          exfalso
          rcases Nat.lt_or_ge i l.size with hl | hl
          · simp [hl] at h
          · simp [hl] at h
        · rw [getD_set_ne true e] at h
          exact ⟨h, fun q => e q.symm⟩
      rw [List.countP_cons, List.countP_cons]
      constructor
      · have := ih.1
        by_cases h : (!(l.setIfInBounds i true).getD k true) = true
        · rw [if_pos h, if_pos (hk h).1]; omega
        · rw [if_neg h]; omega
      · intro hm
        rcases List.mem_cons.1 hm with e | hm
        · have h1 : ¬ (!(l.setIfInBounds i true).getD k true) = true := fun h => (hk h).2 e.symm
          have h2 : (!l.getD k true) = true := by rw [← e, h0]; rfl
          rw [if_neg h1, if_pos h2]
          have := ih.1
          omega
        · have := ih.2 hm
          by_cases h : (!(l.setIfInBounds i true).getD k true) = true
          · rw [if_pos h, if_pos (hk h).1]; omega
          · rw [if_neg h]; omega
  exact (key _).2 (List.mem_range.2 hi)
/-- a fact of each operation -/
def AllOps (F : Nat → Oper → Prop) : Nat → List Oper → Prop
  | _, [] => True
  | n, o :: r => F n o ∧ AllOps F (n + 1) r
theorem AllOps.cons {F : Nat → Oper → Prop} {n : Nat} {o : Oper} {r : List Oper} (h : F n o) (hr : AllOps F (n + 1) r) : AllOps F n (o :: r) := ⟨h, hr⟩
theorem AllOps.nil {F : Nat → Oper → Prop} {n : Nat} : AllOps F n [] := trivial
theorem AllOps.at_ {F : Nat → Oper → Prop} {l : List Oper} {n i : Nat} {o : Oper} (h : AllOps F n l) (ho : l[i]? = some o) : F (n + i) o := by
  induction l generalizing n i with
  | nil => simp at ho
  | cons x r ih =>
    cases i with
    | zero => simp at ho; subst ho; exact h.1
    | succ i =>
      have := ih h.2 (by simpa using ho)
      rw [show n + (i + 1) = n + 1 + i from by omega]; exact this
/-- what an operation needs of those ahead of it -/
def Deps (o : Oper) (L : Nat → Bool) : Prop := ∀ e ∈ o.after, Region.binds .any e = true → L e.on = true
theorem wp_region_inv {P : Program} {ops : Array Oper} {Q : Exit → Act → World → Prop} {id : Nat} {a : Act} {w : World} (hm : P.follows .mixedOrders = true)
    (hac : AllOps (fun i o => ∀ e ∈ o.after, Region.binds .any e = true → e.on < i) 0 ops.toList) (J : (Nat → Bool) → Act → World → Prop) (h0 : J (fun k => decide (ops.size ≤ k)) a w.drew)
    (hs : AllOps (fun i o => ∀ L b v, J L b v → L i = false → Deps o L → ∀ K : Act → World → Prop, Shut (∀ b' v', J (fun k => k == i || L k) b' v' → K b' v') →
      if Region.wanted o (yielded ops b.tmps) = true then Oper.wp P o b v K Q else K (b.put o.dst undef) v) 0 ops.toList)
    (he : ∀ L b v, J L b v → (∀ i, i < ops.size → L i = true) → Q .normal b v) : (Code.region id ops true).wp P Q a w := by
  refine wp_region_held_drew (S := fun _ => True) hm trivial (fun _ => ?_)
  have nxt : ∀ (l : Array Bool) (i : Nat), l.size = ops.size → i < ops.size → (fun k => (l.setIfInBounds i true).getD k true) = (fun k => k == i || l.getD k true) := by
    intro l i hl hi
    funext k
    by_cases e : i = k
    · subst e
      simp [hl, hi]
    · rw [getD_set_ne true e]
      have : (k == i) = false := by rw [beq_eq_false_iff_ne]; exact fun q => e q.symm
      rw [this, Bool.false_or]
  have done : ∀ (l : Array Bool), Region.ready .any ops l = [] → ∀ i, i < ops.size → l.getD i true = true := by
    intro l hr i
    induction i using Nat.strongRecOn with
    | ind i ih =>
      intro hi
      cases h : l.getD i true with
      | true => rfl
      | false =>
        exfalso
        have ho : ops[i]? = some ops[i] := Array.getElem?_eq_getElem hi
        have hin : i ∈ Region.ready .any ops l := by
          refine mem_ready.2 ⟨h, _, ho, fun e he hb => ?_⟩
          have hlt := hac.at_ (n := 0) (i := i) (o := ops[i]) (by simp [hi]) e he hb
          have := ih e.on (by omega) (by omega)
          rcases Nat.lt_or_ge e.on l.size with hz | hz
          · simpa [hz] using this
          · exfalso
            have hiz : l.getD i true = true := by simp [Array.getElem?_eq_none (show l.size ≤ i by omega)]
            rw [hiz] at h; cases h
        rw [hr] at hin
        cases hin
  have key : ∀ (fuel : Nat) (l : Array Bool) (b : Act) (v : World), l.size = ops.size → (List.range ops.size).countP (fun k => !l.getD k true) ≤ fuel → J (fun k => l.getD k true) b v → wpAnyH P .any ops Q (fun _ => True) fuel l b v := by
    intro fuel
    induction fuel with
    | zero =>
      intro l b v hl hc hJ
      have hall : ∀ i, i < ops.size → l.getD i true = true := by
        intro i hi
        have h0 : (List.range ops.size).countP (fun k => !l.getD k true) = 0 := by omega
        rw [List.countP_eq_zero] at h0
        have := h0 i (List.mem_range.2 hi)
        simpa using this
      refine ⟨?_, he _ b v hJ hall⟩
      apply List.eq_nil_iff_forall_not_mem.2
      intro i hi
      obtain ⟨h1, o, ho, _⟩ := mem_ready.1 hi
      have hlt : i < ops.size := (Array.getElem?_eq_some_iff.1 ho).1
      rw [hall i hlt] at h1
      cases h1
    | succ fuel ih =>
      intro l b v hl hc hJ
      refine ⟨fun hr => he _ b v hJ (done l hr), fun i hi => ?_⟩
      obtain ⟨h1, o, ho, hd⟩ := mem_ready.1 hi
      have hlt : i < ops.size := (Array.getElem?_eq_some_iff.1 ho).1
      refine wpOp_step ho (fun K hK => ?_)
      have hs1 := hs.at_ (n := 0) (i := i) (o := o) (by simpa using ho)
      rw [Nat.zero_add] at hs1
      refine hs1 _ b v hJ h1 (fun e he hb => ?_) K (fun b' v' hJ' => hK b' v' ⟨trivial, ih _ b' v' (by simpa using hl) ?_ ?_⟩)
      · have := hd e he hb
        rcases Nat.lt_or_ge e.on l.size with hz | hz
        · simpa [hz] using this
        · simp [Array.getElem?_eq_none hz] at this
      · have := ready_set_lt (l := l) hlt h1
        omega
      · rw [nxt l i hl hlt]; exact hJ'
  refine key ops.size _ a w.drew (by simp) ?_ ?_
  · refine Nat.le_trans List.countP_le_length ?_
    rw [List.length_range]; exact Nat.le_refl _
  · have e : (fun k => (Array.replicate ops.size false).getD k true) = fun k => decide (ops.size ≤ k) := by
      funext k
      by_cases h : k < ops.size
      · have h2 : ¬ ops.size ≤ k := by omega
        simp [h, h2]
      · have h2 : ops.size ≤ k := by omega
        simp [h, h2]
    rw [e]; exact h0
end Go.Proofs.YtmohfibgefcefaaGreatDoor
namespace Go.Proofs.YtmohfibgefcefaaGreatDoor
open Go.RowKit

/-- one of a region's values put in -/
def updU (U : Nat → Value) (i : Nat) (v : Value) : Nat → Value := fun k => if k = i then v else U k
/-- what holds along a region: each value that has come up is as told, and what lay below B still lies there -/
structure JR (mk : (Nat → Value) → Act) (F : Nat → Value → World → Prop) (B : Nat) (w0 : World) (n : Nat) (L : Nat → Bool) (b : Act) (W : World) : Prop where
  ex : ∃ U, b = mk U ∧ (∀ i, i < n → L i = true → F i (U i) W) ∧ Below B w0 W ∧ B ≤ W.heap.size
theorem JR.to {mk : (Nat → Value) → Act} {F : Nat → Value → World → Prop} {B : Nat} {w0 : World} {n : Nat} {L : Nat → Bool} {b b' : Act} {W : World} (e : b = b') (h : JR mk F B w0 n L b W) : JR mk F B w0 n L b' W := e ▸ h
theorem JR.next {mk : (Nat → Value) → Act} {F : Nat → Value → World → Prop} {B : Nat} {w0 : World} {n : Nat} {L : Nat → Bool} {U : Nat → Value} {W W' : World} (hm : ∀ i v W W', F i v W → Below W.heap.size W W' → F i v W') (i : Nat) (v : Value)
    (hF : ∀ i, i < n → L i = true → F i (U i) W) (hw : Below B w0 W) (hz : B ≤ W.heap.size) (hg : Below W.heap.size W W') (hv : F i v W') : JR mk F B w0 n (fun k => k == i || L k) (mk (updU U i v)) W' := by
  refine ⟨updU U i v, rfl, fun k hk hl => ?_, hw.trans (hg.mono hz), Nat.le_trans hz hg.size⟩
  unfold updU
  by_cases e : k = i
  · subst e; rw [if_pos rfl]; exact hv
  · rw [if_neg e]
    have : L k = true := by
      simp only [Bool.or_eq_true, beq_iff_eq] at hl
      rcases hl with q | q
      · exact absurd q e
      · exact q
    exact hm _ _ _ _ (hF k hk this) hg
end Go.Proofs.YtmohfibgefcefaaGreatDoor
