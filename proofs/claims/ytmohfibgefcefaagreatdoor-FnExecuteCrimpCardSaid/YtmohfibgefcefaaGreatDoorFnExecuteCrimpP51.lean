/- The desk's commands that set angles and folds, and the crimp. No condition but sizes. A region that draws its order, by an invariant over what has come up. No program, no condition. A region that draws its order, told by what each of its values is. No program, no condition. A number's digits: the laws' own. No condition but sizes. -/
import Derived.Test.YtmohfibgefcefaaGreatDoorFnExecuteCrimpP50
import Derived.Deep.RegionHeld3
import Derived.Below
import Derived.Test.YtmohfibgefcefaaGreatDoorStrE
import Derived.Test.YtmohfibgefcefaaGreatDoorBytes
import Derived.Lib.ItoaNum
import Derived.Test.YtmohfibgefcefaaGreatDoorSplit
namespace Go.Proofs.YtmohfibgefcefaaGreatDoor
open Go.RowKit

theorem strs_words {W : World} {b : Nat} {x : List UInt8} {r : List (List UInt8)} (h : Blk W b 9 (wordsV (x :: r))) : Strs W (some ⟨b, 1, none⟩) r := by
  intro _
  refine ⟨b, 1, rfl, h.lt, fun k y hy => ?_⟩
  rw [h.cell (1 + k)]
  exact (wordsV_get (ws := x :: r) (k := 1 + k) (by rw [Nat.add_comm]; exact hy)).trans rfl
theorem own_int_blk {w : World} {B : Nat} {A : Option Addr} {n c : Nat} {L : List Value} (h : w.ownsRow B 3 1 (.slice A n c) n L) : ∀ a, A = some a → ∃ cs z, w.heap[a.block]? = some (.cells cs 3 z) := by
  intro a ha
  rcases h.2 with ⟨e, _⟩ | ⟨g, cap, cur, e, _, hg, _⟩
  · cases e; cases ha
  · cases e; cases ha
    exact ⟨_, _, hg⟩
set_option maxHeartbeats 2000000 in
set_option maxRecDepth 100000 in
theorem impl_setAngles_yes (td c : Nat) (A : Option Addr) (ws : List (List UInt8)) (xs : List Int) (f : List UInt8) (w : World) (hD : Desk w td xs f) (hS : Strs w A ws) (hl : ws.length ≤ 1000) (hv : avB (numsV ws) = true) :
    Calls Tryz.prog 132 #[.pointer (some ⟨td, 0, none⟩), .slice A ws.length c] w fun e w' => e = .returned (.tuple #[.string ⟨#[111, 107]⟩, .bool true]) ∧ w.grownBy w' (some td) ∧ Desk w' td (numsV ws) [] := by
  have HN := Lib.hid (impl_numbersOf A c ws w hS hl)
  have HD := Lib.hid hD
  have htd := hD.lt
  clear hD hS
  go_enter Tryz.func132, Tryz.ntmps132
  go_wp2_with fail
  refine HN.out.mono ?_
  rintro e w1 ⟨v, rfl, ho1, hb1⟩
  obtain ⟨A1, c1, rfl, hi1, hc1, hm1⟩ := Own.form ho1
  have hlen := numsV_len ws
  have HA := Lib.hid (impl_AnglesValid A1 c1 (numsV ws) w1 hi1 (by rw [hlen]; unfold maxLen; omega))
  rw [hv] at HA
  have HD1 := Lib.hid (HD.out.below hb1)
  have HB1 := Lib.hid hb1
  have HO1 := Lib.hid ho1
  have HC1 := Lib.hid (And.intro hc1 hm1)
  obtain ⟨ys, hys⟩ : ∃ ys, ys = numsV ws := ⟨_, rfl⟩
  rw [← hys] at HA HO1 HC1 ⊢
  have HYS := Lib.hid hys
  clear hb1 ho1 hi1 hc1 hm1 HN hlen hys hv
  obtain ⟨A0, c0, hk0, _, _, _, _⟩ := HD1.out
  have q0 : w1.cell? ⟨td, 0, none⟩ = some (.slice A0 xs.length c0) := hk0.cell 0
  have q1 : w1.cell? ⟨td, 1, none⟩ = some (.string (btj f)) := hk0.cell 1
  have f0 := hk0.frozen 0
  have f1 := hk0.frozen 1
  have HK0 := Lib.hid hk0
  clear hk0
  go_wp2_with fail
  refine HA.out.mono ?_
  rintro e _ ⟨rfl, rfl⟩
  go_wp2_with fail
  go_ret2
  have hg1 : w1.grownBy (((w1.setCell ⟨td, 0, none⟩ (.slice A1 ys.length c1)).setCell ⟨td, 1, none⟩ (.string ⟨#[]⟩))) (some td) := (grown_setE w1 td 0 _).trans (grown_setE _ td 1 _)
  have hk2 : Blk ((w1.setCell ⟨td, 0, none⟩ (.slice A1 ys.length c1)).setCell ⟨td, 1, none⟩ (.string ⟨#[]⟩)) td 68 #[.slice A1 ys.length c1, .string (btj [])] := by
    simpa using (HK0.out.set_ 0 (.slice A1 ys.length c1)).set_ 1 (.string ⟨#[]⟩)
  have ho2 := HO1.out.kept hg1 (Or.inr (own_blk_ne HO1.out HK0.out (by decide)))
  rw [← HYS.out]
  refine ⟨rfl, grown_of_below HB1.out (Nat.le_refl _) hg1, A1, c1, hk2, Ints.of_own ho2, HC1.out.1, HC1.out.2, own_int_blk ho2⟩
set_option maxHeartbeats 2000000 in
set_option maxRecDepth 100000 in
theorem impl_setAngles_no (td c : Nat) (A : Option Addr) (ws : List (List UInt8)) (xs : List Int) (f : List UInt8) (w : World) (hD : Desk w td xs f) (hS : Strs w A ws) (hl : ws.length ≤ 1000) (hv : avB (numsV ws) = false) :
    Calls Tryz.prog 132 #[.pointer (some ⟨td, 0, none⟩), .slice A ws.length c] w fun e w' => e = .returned (.tuple #[.string ⟨#[]⟩, .bool false]) ∧ Below w.heap.size w w' := by
  have HN := Lib.hid (impl_numbersOf A c ws w hS hl)
  have HD := Lib.hid hD
  have htd := hD.lt
  clear hD hS
  go_enter Tryz.func132, Tryz.ntmps132
  go_wp2_with fail
  refine HN.out.mono ?_
  rintro e w1 ⟨v, rfl, ho1, hb1⟩
  obtain ⟨A1, c1, rfl, hi1, hc1, hm1⟩ := Own.form ho1
  have hlen := numsV_len ws
  have HA := Lib.hid (impl_AnglesValid A1 c1 (numsV ws) w1 hi1 (by rw [hlen]; unfold maxLen; omega))
  rw [hv] at HA
  have HD1 := Lib.hid (HD.out.below hb1)
  have HB1 := Lib.hid hb1
  have HO1 := Lib.hid ho1
  have HC1 := Lib.hid (And.intro hc1 hm1)
  obtain ⟨ys, hys⟩ : ∃ ys, ys = numsV ws := ⟨_, rfl⟩
  rw [← hys] at HA HO1 HC1 ⊢
  have HYS := Lib.hid hys
  clear hb1 ho1 hi1 hc1 hm1 HN hlen hys hv
  go_wp2_with fail
  refine HA.out.mono ?_
  rintro e w2 ⟨he, hw⟩
  rw [he]
  have HB2 : Hid (Below w.heap.size w w2) := by show Below _ _ _; rw [← hw]; exact HB1.out
  clear he hw HA HD1 HB1 HO1 HC1 HYS
  go_wp2_with fail
  go_ret2
  exact ⟨rfl, HB2.out⟩
set_option maxHeartbeats 2000000 in
set_option maxRecDepth 100000 in
theorem impl_setFolds_yes (td b n c : Nat) (x : List UInt8) (xs : List Int) (f : List UInt8) (w : World) (hD : Desk w td xs f) (hc : w.cell? ⟨b, 1, none⟩ = some (.string (btj x))) (hx : x.length ≤ 1000) (hn : 1 ≤ xs.length) (hv : fvB x xs.length = true) :
    Calls Tryz.prog 133 #[.pointer (some ⟨td, 0, none⟩), .slice (some ⟨b, 1, none⟩) (n + 1) c] w fun e w' => e = .returned (.tuple #[.string ⟨#[111, 107]⟩, .bool true]) ∧ w.grownBy w' (some td) ∧ Desk w' td xs x := by
  obtain ⟨A0, c0, hk0, hi0, hc0, hm0, ht0⟩ := hD
  have q0 : w.cell? ⟨td, 0, none⟩ = some (.slice A0 xs.length c0) := hk0.cell 0
  have q1 : w.cell? ⟨td, 1, none⟩ = some (.string (btj f)) := hk0.cell 1
  have f0 := hk0.frozen 0
  have f1 := hk0.frozen 1
  have HFV : Hid (∀ W : World, Calls Tryz.prog 81 #[.string (btj x), .int .i64 xs.length] W fun e w' => e = .returned (.bool (fvB x xs.length)) ∧ W = w') := fun W => impl_FoldsValid (btj x) xs.length W (by rw [btj_size]; unfold maxLen; omega)
  rw [hv] at HFV
  have HK0 := Lib.hid hk0
  have HR0 := Lib.hid (And.intro hi0 (And.intro hc0 (And.intro hm0 ht0)))
  have d1 : ((xs.length : Int) == 0) = false := by rw [beq_eq_false_iff_ne]; omega
  have k1 : (1 : Int) ≤ (n : Int) + 1 := by omega
  clear hk0 hi0 hc0 hm0 ht0 hv hn
  go_enter Tryz.func133, Tryz.ntmps133
  go_wp2_with fail
  go_quiet ((go_at_call 81; exact quietl (HFV.out _)))
  go_wp2_with fail
  go_ret2
  have hgd : w.grownBy (w.drewN nq) (some td) := ⟨rfl, rfl, rfl, Nat.le_refl _, fun _ _ _ => rfl⟩
  have hg1 := hgd.trans (grown_setE (w.drewN nq) td 1 (.string (btj x)))
  have hk2 : Blk ((w.drewN nq).setCell ⟨td, 1, none⟩ (.string (btj x))) td 68 #[.slice A0 xs.length c0, .string (btj x)] := by
    simpa using (HK0.out.drewN nq).set_ 1 (.string (btj x))
  obtain ⟨hi0, hc0, hm0, ht0⟩ := HR0.out
  have hDn : Desk (w.drewN nq) td xs f := ⟨A0, c0, HK0.out.drewN nq, hi0.below (below_drewN (Below.refl _ _) nq), hc0, hm0, ht0⟩
  refine ⟨rfl, hg1, A0, c0, hk2, ?_, hc0, hm0, ?_⟩
  · intro hne
    obtain ⟨b2, off, e, hb, hcell⟩ := hi0 hne
    obtain ⟨cs, z, hh⟩ := ht0 _ e
    have hbt : b2 ≠ td := by
      intro e2
      subst e2
      have := HK0.out
      unfold Blk at this
      rw [show w.heap[(⟨b2, off, none⟩ : Addr).block]? = w.heap[b2]? from rfl, this] at hh
      injection hh with hh
      injection hh with _ h5
      exact absurd h5 (by decide)
    exact ⟨b2, off, e, Nat.lt_of_lt_of_le hb hg1.size, fun j y hj => (hg1.cell_far ⟨b2, off + j, none⟩ hb (fun e2 => hbt (Option.some.inj e2))).trans (hcell j y hj)⟩
  · intro a ha
    obtain ⟨cs, z, hh⟩ := ht0 a ha
    have hbt : a.block ≠ td := by
      intro e2
      have := HK0.out
      unfold Blk at this
      rw [e2, this] at hh
      injection hh with hh
      injection hh with _ h5
      exact absurd h5 (by decide)
    exact ⟨cs, z, (hg1.block a.block (Array.getElem?_eq_some_iff.1 hh).1 (fun e2 => hbt (Option.some.inj e2))).trans hh⟩
set_option maxHeartbeats 2000000 in
set_option maxRecDepth 100000 in
theorem impl_crimp (td b n c : Nat) (x : List UInt8) (xs : List Int) (f : List UInt8) (w : World) (hD : Desk w td xs f) (hf : f.length ≤ 1000) (hb : b < w.heap.size) (hc : w.cell? ⟨b, 1, none⟩ = some (.string (btj x))) :
    Calls Tryz.prog 137 #[.pointer (some ⟨td, 0, none⟩), .slice (some ⟨b, 1, none⟩) (n + 1) c] w fun e w' => e = .returned (.tuple #[.string (vcS xs (btj f) (numV x : Nat)), .bool (vcB xs (btj f) (numV x : Nat))]) ∧ Below w.heap.size w w' := by
  obtain ⟨A0, c0, hk0, hi0, hc0, hm0, _⟩ := hD
  have q0 : w.cell? ⟨td, 0, none⟩ = some (.slice A0 xs.length c0) := hk0.cell 0
  have q1 : w.cell? ⟨td, 1, none⟩ = some (.string (btj f)) := hk0.cell 1
  have hlt := hk0.lt
  have HN : Hid (∀ W : World, Calls Tryz.prog 156 #[.string (btj x)] W fun e w' => e = .returned (.int .i64 (numV x : Nat)) ∧ W = w') := fun W => impl_numberOf (btj x) W
  have HV := Lib.hid (fun W (hb : Below w.heap.size w W) => impl_VertexCrimp A0 c0 xs (btj f) (numV x : Nat) W (hi0.below hb) (by omega) (by rw [btj_size]; unfold maxLen; omega))
  obtain ⟨i, hi⟩ : ∃ i : Int, i = ((numV x : Nat) : Int) := ⟨_, rfl⟩
  rw [← hi] at HN HV ⊢
  clear hk0 hi0 hc0 hm0 hi
  go_enter Tryz.func137, Tryz.ntmps137
  go_wp2_with fail
  go_region_held3 (fun W => W.cell? ⟨td, 0, none⟩ = some (.slice A0 xs.length c0) ∧ W.cell? ⟨td, 1, none⟩ = some (.string (btj f)) ∧ W.cell? ⟨b, 1, none⟩ = some (.string (btj x)))
    (first | exact ⟨q0, q1, hc⟩ | exact ⟨(hbx.cell (p := ⟨td, 0, none⟩) hlt).trans q0, (hbx.cell (p := ⟨td, 1, none⟩) hlt).trans q1, (hbx.cell (p := ⟨b, 1, none⟩) hb).trans hc⟩)
    (first | (go_simp; go_at_call 24; refine (HV.out _ (below_drewN (Below.refl _ _) _)).mono ?_; rintro e w6 ⟨v6, rfl, ho6, hbx⟩) | (go_simp; go_at_call 156; refine (HN.out _).mono ?_; rintro e _ ⟨rfl, rfl⟩))
  all_goals
    have HB6 := Lib.hid ((below_drewN (Below.refl w.heap.size w) 1).trans hbx)
    clear hbx
    go_wp2_with fail
    go_ret2
    exact ⟨rfl, HB6.out⟩
end Go.Proofs.YtmohfibgefcefaaGreatDoor
namespace Go.Proofs.YtmohfibgefcefaaGreatDoor

theorem ready_set_lt {ops : Array Oper} {l : Array Bool} {i : Nat} (hi : i < ops.size) (h0 : l.getD i true = false) :
    (List.range ops.size).countP (fun k => !(l.setIfInBounds i true).getD k true) < (List.range ops.size).countP (fun k => !l.getD k true) := by
  have key : ∀ L : List Nat, (L.countP (fun k => !(l.setIfInBounds i true).getD k true) ≤ L.countP (fun k => !l.getD k true)) ∧ (i ∈ L → L.countP (fun k => !(l.setIfInBounds i true).getD k true) < L.countP (fun k => !l.getD k true)) := by
    intro L
    induction L with
    | nil => exact ⟨Nat.le_refl _, fun h => by cases h⟩
    | cons k r ih =>
      have hk : (!(l.setIfInBounds i true).getD k true) = true → (!l.getD k true) = true ∧ k ≠ i := by
        intro h
        by_cases e : i = k
        · subst e
          exfalso
          rcases Nat.lt_or_ge i l.size with hl | hl
          · simp [hl] at h
          · simp [hl] at h
        · rw [getD_set_ne true e] at h
          exact ⟨h, fun q => e q.symm⟩
      rw [List.countP_cons, List.countP_cons]
      constructor
      · have := ih.1
        by_cases h : (!(l.setIfInBounds i true).getD k true) = true
        · rw [if_pos h, if_pos (hk h).1]; omega
        · rw [if_neg h]; omega
      · intro hm
        rcases List.mem_cons.1 hm with e | hm
        · have h1 : ¬ (!(l.setIfInBounds i true).getD k true) = true := fun h => (hk h).2 e.symm
          have h2 : (!l.getD k true) = true := by rw [← e, h0]; rfl
          rw [if_neg h1, if_pos h2]
          have := ih.1
          omega
        · have := ih.2 hm
          by_cases h : (!(l.setIfInBounds i true).getD k true) = true
          · rw [if_pos h, if_pos (hk h).1]; omega
          · rw [if_neg h]; omega
  exact (key _).2 (List.mem_range.2 hi)
/-- a fact of each operation -/
def AllOps (F : Nat → Oper → Prop) : Nat → List Oper → Prop
  | _, [] => True
  | n, o :: r => F n o ∧ AllOps F (n + 1) r
theorem AllOps.cons {F : Nat → Oper → Prop} {n : Nat} {o : Oper} {r : List Oper} (h : F n o) (hr : AllOps F (n + 1) r) : AllOps F n (o :: r) := ⟨h, hr⟩
theorem AllOps.nil {F : Nat → Oper → Prop} {n : Nat} : AllOps F n [] := trivial
theorem AllOps.at_ {F : Nat → Oper → Prop} {l : List Oper} {n i : Nat} {o : Oper} (h : AllOps F n l) (ho : l[i]? = some o) : F (n + i) o := by
  induction l generalizing n i with
  | nil => simp at ho
  | cons x r ih =>
    cases i with
    | zero => simp at ho; subst ho; exact h.1
    | succ i =>
      have := ih h.2 (by simpa using ho)
      rw [show n + (i + 1) = n + 1 + i from by omega]; exact this
/-- what an operation needs of those ahead of it -/
def Deps (o : Oper) (L : Nat → Bool) : Prop := ∀ e ∈ o.after, Region.binds .any e = true → L e.on = true
theorem wp_region_inv {P : Program} {ops : Array Oper} {Q : Exit → Act → World → Prop} {id : Nat} {a : Act} {w : World} (hm : P.follows .mixedOrders = true)
    (hac : AllOps (fun i o => ∀ e ∈ o.after, Region.binds .any e = true → e.on < i) 0 ops.toList) (J : (Nat → Bool) → Act → World → Prop) (h0 : J (fun k => decide (ops.size ≤ k)) a w.drew)
    (hs : AllOps (fun i o => ∀ L b v, J L b v → L i = false → Deps o L → ∀ K : Act → World → Prop, Shut (∀ b' v', J (fun k => k == i || L k) b' v' → K b' v') →
      if Region.wanted o (yielded ops b.tmps) = true then Oper.wp P o b v K Q else K (b.put o.dst undef) v) 0 ops.toList)
    (he : ∀ L b v, J L b v → (∀ i, i < ops.size → L i = true) → Q .normal b v) : (Code.region id ops true).wp P Q a w := by
  refine wp_region_held_drew (S := fun _ => True) hm trivial (fun _ => ?_)
  have nxt : ∀ (l : Array Bool) (i : Nat), l.size = ops.size → i < ops.size → (fun k => (l.setIfInBounds i true).getD k true) = (fun k => k == i || l.getD k true) := by
    intro l i hl hi
    funext k
    by_cases e : i = k
    · subst e
      simp [hl, hi]
    · rw [getD_set_ne true e]
      have : (k == i) = false := by rw [beq_eq_false_iff_ne]; exact fun q => e q.symm
      rw [this, Bool.false_or]
  have done : ∀ (l : Array Bool), Region.ready .any ops l = [] → ∀ i, i < ops.size → l.getD i true = true := by
    intro l hr i
    induction i using Nat.strongRecOn with
    | ind i ih =>
      intro hi
      cases h : l.getD i true with
      | true => rfl
      | false =>
        exfalso
        have ho : ops[i]? = some ops[i] := Array.getElem?_eq_getElem hi
        have hin : i ∈ Region.ready .any ops l := by
          refine mem_ready.2 ⟨h, _, ho, fun e he hb => ?_⟩
          have hlt := hac.at_ (n := 0) (i := i) (o := ops[i]) (by simp [hi]) e he hb
          have := ih e.on (by omega) (by omega)
          rcases Nat.lt_or_ge e.on l.size with hz | hz
          · simpa [hz] using this
          · exfalso
            have hiz : l.getD i true = true := by simp [Array.getElem?_eq_none (show l.size ≤ i by omega)]
            rw [hiz] at h; cases h
        rw [hr] at hin
        cases hin
  have key : ∀ (fuel : Nat) (l : Array Bool) (b : Act) (v : World), l.size = ops.size → (List.range ops.size).countP (fun k => !l.getD k true) ≤ fuel → J (fun k => l.getD k true) b v → wpAnyH P .any ops Q (fun _ => True) fuel l b v := by
    intro fuel
    induction fuel with
    | zero =>
      intro l b v hl hc hJ
      have hall : ∀ i, i < ops.size → l.getD i true = true := by
        intro i hi
        have h0 : (List.range ops.size).countP (fun k => !l.getD k true) = 0 := by omega
        rw [List.countP_eq_zero] at h0
        have := h0 i (List.mem_range.2 hi)
        simpa using this
      refine ⟨?_, he _ b v hJ hall⟩
      apply List.eq_nil_iff_forall_not_mem.2
      intro i hi
      obtain ⟨h1, o, ho, _⟩ := mem_ready.1 hi
      have hlt : i < ops.size := (Array.getElem?_eq_some_iff.1 ho).1
      rw [hall i hlt] at h1
      cases h1
    | succ fuel ih =>
      intro l b v hl hc hJ
      refine ⟨fun hr => he _ b v hJ (done l hr), fun i hi => ?_⟩
      obtain ⟨h1, o, ho, hd⟩ := mem_ready.1 hi
      have hlt : i < ops.size := (Array.getElem?_eq_some_iff.1 ho).1
      refine wpOp_step ho (fun K hK => ?_)
      have hs1 := hs.at_ (n := 0) (i := i) (o := o) (by simpa using ho)
      rw [Nat.zero_add] at hs1
      refine hs1 _ b v hJ h1 (fun e he hb => ?_) K (fun b' v' hJ' => hK b' v' ⟨trivial, ih _ b' v' (by simpa using hl) ?_ ?_⟩)
      · have := hd e he hb
        rcases Nat.lt_or_ge e.on l.size with hz | hz
        · simpa [hz] using this
        · simp [Array.getElem?_eq_none hz] at this
      · have := ready_set_lt (l := l) hlt h1
        omega
      · rw [nxt l i hl hlt]; exact hJ'
  refine key ops.size _ a w.drew (by simp) ?_ ?_
  · refine Nat.le_trans List.countP_le_length ?_
    rw [List.length_range]; exact Nat.le_refl _
  · have e : (fun k => (Array.replicate ops.size false).getD k true) = fun k => decide (ops.size ≤ k) := by
      funext k
      by_cases h : k < ops.size
      · have h2 : ¬ ops.size ≤ k := by omega
        simp [h, h2]
      · have h2 : ops.size ≤ k := by omega
        simp [h, h2]
    rw [e]; exact h0
end Go.Proofs.YtmohfibgefcefaaGreatDoor
namespace Go.Proofs.YtmohfibgefcefaaGreatDoor
open Go.RowKit

/-- one of a region's values put in -/
def updU (U : Nat → Value) (i : Nat) (v : Value) : Nat → Value := fun k => if k = i then v else U k
/-- what holds along a region: each value that has come up is as told, and what lay below B still lies there -/
structure JR (mk : (Nat → Value) → Act) (F : Nat → Value → World → Prop) (B : Nat) (w0 : World) (n : Nat) (L : Nat → Bool) (b : Act) (W : World) : Prop where
  ex : ∃ U, b = mk U ∧ (∀ i, i < n → L i = true → F i (U i) W) ∧ Below B w0 W ∧ B ≤ W.heap.size
theorem JR.to {mk : (Nat → Value) → Act} {F : Nat → Value → World → Prop} {B : Nat} {w0 : World} {n : Nat} {L : Nat → Bool} {b b' : Act} {W : World} (e : b = b') (h : JR mk F B w0 n L b W) : JR mk F B w0 n L b' W := e ▸ h
theorem JR.next {mk : (Nat → Value) → Act} {F : Nat → Value → World → Prop} {B : Nat} {w0 : World} {n : Nat} {L : Nat → Bool} {U : Nat → Value} {W W' : World} (hm : ∀ i v W W', F i v W → Below W.heap.size W W' → F i v W') (i : Nat) (v : Value)
    (hF : ∀ i, i < n → L i = true → F i (U i) W) (hw : Below B w0 W) (hz : B ≤ W.heap.size) (hg : Below W.heap.size W W') (hv : F i v W') : JR mk F B w0 n (fun k => k == i || L k) (mk (updU U i v)) W' := by
  refine ⟨updU U i v, rfl, fun k hk hl => ?_, hw.trans (hg.mono hz), Nat.le_trans hz hg.size⟩
  unfold updU
  by_cases e : k = i
  · subst e; rw [if_pos rfl]; exact hv
  · rw [if_neg e]
    have : L k = true := by
      simp only [Bool.or_eq_true, beq_iff_eq] at hl
      rcases hl with q | q
      · exact absurd q e
      · exact q
    exact hm _ _ _ _ (hF k hk this) hg
end Go.Proofs.YtmohfibgefcefaaGreatDoor
namespace Go.Proofs.YtmohfibgefcefaaGreatDoor
open Go.RowKit

theorem digit_byte {n : Nat} (h : n < 10) : ((UInt8.ofNat (48 + n)).toNat : Int) = 48 + (n : Int) := by
  rw [UInt8.toNat_ofNat']
  omega
theorem decDigits_le : ∀ (b n : Nat), n < b → (Lib.decDigits n).length ≤ n + 1 := by
  intro b
  induction b with
  | zero => intro n h; omega
  | succ b ih =>
    intro n h
    by_cases h10 : n < 10
    · rw [Lib.decDigits_one h10]; simp
    · rw [Lib.decDigits, dif_neg h10, List.length_append]
      have := ih (n / 10) (by omega)
      simp only [List.length_cons, List.length_nil]; omega
theorem u8_small {x : Int} (h0 : 0 ≤ x) (h1 : x < 256) : IntKind.u8.wrap x = x := by
  unfold IntKind.wrap
  have e : (2 : Int) ^ IntKind.u8.bits = 256 := by decide
  have e2 : IntKind.u8.signed = false := rfl
  simp only [e, e2]
  simp
  omega
theorem run_one_string (w : World) (z : UInt8) (zi : Int) (hz : (z.toNat : Int) = zi) (g : Nat) (hc : w.cell? ⟨g, 0, none⟩ = some (.int .u8 zi)) : (convert 22 9 (.slice (some ⟨g, 0, none⟩) 1 1)).run Tryz.prog w = .ok (.string (btj [z])) w := by
  refine run_convert_bytes_back w 22 9 5 ⟨g, 0, none⟩ 1 [z] Tryz.underlying22 Tryz.underlying5 Tryz.underlying9 fun j hj => ?_
  have : j = 0 := by simpa using hj
  subst this
  rw [Addr.add_lit]
  simpa [hz] using hc
/-- the frame of the region of the digits -/
def mkDg (n : Int) (U : Nat → Value) : Act :=
  { tmps := #[.int .i64 n, undef, U 10, .int .i64 n, .bool false, undef, undef, undef, undef, undef, U 0, U 1, U 2, U 3, U 4, U 5, U 6, U 7, U 8, U 9], defers := [] }
def FDg (n q r : Int) (D Z S : ByteArray) (i : Nat) (v : Value) (W : World) : Prop :=
  match i with
  | 0 => v = .int .i64 n
  | 1 => v = .int .i64 q
  | 2 => v = .string D
  | 3 => v = .int .i64 n
  | 4 => v = .int .i64 r
  | 5 => v = .int .i64 (48 + r)
  | 6 => v = .int .u8 (48 + r)
  | 7 => ∃ g, v = .slice (some ⟨g, 0, none⟩) 1 1 ∧ g < W.heap.size ∧ W.cell? ⟨g, 0, none⟩ = some (.int .u8 (48 + r))
  | 8 => v = .string Z
  | 9 => v = .string S
  | _ => v = .string S
theorem FDg.more {n q r : Int} {D Z S : ByteArray} : ∀ (i : Nat) (v : Value) (W W' : World), FDg n q r D Z S i v W → Below W.heap.size W W' → FDg n q r D Z S i v W' := by
  intro i v W W' h hb
  unfold FDg at h ⊢
  split at h <;> first | exact h | skip
  obtain ⟨g, e, hl, hc⟩ := h
  exact ⟨g, e, Nat.lt_of_lt_of_le hl hb.size, (hb.cell (p := ⟨g, 0, none⟩) hl).trans hc⟩
set_option maxHeartbeats 2000000 in
set_option maxRecDepth 100000 in
theorem laws_digits : ∀ (b n : Nat), n < b → n ≤ 1000000000000 → ∀ w : World,
    Calls Tryz.prog 11 #[.int .i64 n] w fun e w' => e = .returned (.string (btj (Lib.decDigits n))) ∧ Below w.heap.size w w' := by
  intro b
  induction b with
  | zero => intro n h; omega
  | succ b ih =>
    intro n hb hn w
    by_cases h10 : n < 10
    · have d1 : decide ((n : Int) < 10) = true := by simp; omega
      have hc1 : (IntKind.u8.wrap (48 + (n : Int))) = 48 + (n : Int) := u8_small (by omega) (by omega)
      obtain ⟨z, hz⟩ : ∃ z, z = UInt8.ofNat (48 + n) := ⟨_, rfl⟩
      have hs1 : ∀ (W : World) (g : Nat), W.cell? ⟨g, 0, none⟩ = some (.int .u8 (48 + (n : Int))) → (convert 22 9 (.slice (some ⟨g, 0, none⟩) 1 1)).run Tryz.prog W = .ok (.string (btj [z])) W := fun W g h => run_one_string W _ _ (by rw [hz]; exact digit_byte h10) g h
      have HE : Hid (Lib.decDigits n = [z]) := by show _ = _; rw [hz]; exact Lib.decDigits_one h10
      clear hz ih
      go_enter Tryz.func11, Tryz.ntmps11
      go_wp2_with fail
      go_ret
      exact ⟨by rw [HE.out]; rfl, (Below.refl _ _).alloc (Nat.le_refl _) _⟩
    · have d1 : decide ((n : Int) < 10) = false := by simp; omega
      have hq : (n : Int).tdiv 10 = ((n / 10 : Nat) : Int) := by rw [Int.tdiv_eq_ediv_of_nonneg (by omega)]; rfl
      have hr : (n : Int).tmod 10 = ((n % 10 : Nat) : Int) := by rw [Int.tmod_eq_emod_of_nonneg (by omega)]; rfl
      have hc1 : (IntKind.u8.wrap (48 + ((n % 10 : Nat) : Int))) = 48 + ((n % 10 : Nat) : Int) := u8_small (by omega) (by omega)
      obtain ⟨z, hz⟩ : ∃ z, z = UInt8.ofNat (48 + n % 10) := ⟨_, rfl⟩
      obtain ⟨r, hrr⟩ : ∃ r, r = n % 10 := ⟨_, rfl⟩
      have hr10 : r < 10 := by omega
      have HC := Lib.hid (fun W : World => ih (n / 10) (by omega) (by omega) W)
      have HE : Hid (Lib.decDigits n = Lib.decDigits (n / 10) ++ [z]) := by show _ = _; rw [Lib.decDigits, dif_neg h10, hz]
      have hdl := decDigits_le (n / 10 + 1) (n / 10) (by omega)
      obtain ⟨q, hqq⟩ : ∃ q, q = n / 10 := ⟨_, rfl⟩
      rw [← hrr] at hr hc1 hz
      rw [← hqq] at hq HC HE hdl
      have hq12 : q ≤ 1000000000000 := by omega
      have hs1 : ∀ (W : World) (g : Nat), W.cell? ⟨g, 0, none⟩ = some (.int .u8 (48 + (r : Int))) → (convert 22 9 (.slice (some ⟨g, 0, none⟩) 1 1)).run Tryz.prog W = .ok (.string (btj [z])) W := fun W g h => run_one_string W _ _ (by rw [hz]; exact digit_byte hr10) g h
      obtain ⟨D, hD⟩ : ∃ D, D = Lib.decDigits q := ⟨_, rfl⟩
      rw [← hD] at HC HE hdl
      have b12 : ∀ W, (Op.stringOp .add (btj D) (btj [z])).run Tryz.prog W = .ok (.string (btj D ++ btj [z])) W := fun W => run_string_add_sum W _ _ (by
        have e1 : (btj D).size = D.length := by show (List.toArray _).size = _; simp
        have e2 : (btj [z]).size = 1 := rfl
        rw [e1, e2]; omega)
      have HF : Hid (btj D ++ btj [z] = btj (Lib.decDigits n)) := by
        show _ = _
        rw [HE.out]; exact ByteArray.mk_append_mk D [z]
      have wq : IntKind.i64.wrap (q : Int) = (q : Int) := IntWalk.i64_in _ (by omega)
      have wr : IntKind.i64.wrap (48 + (r : Int)) = 48 + (r : Int) := IntWalk.i64_in _ (by omega)
      clear ih hz hrr hqq hD h10 hdl HE
      go_enter Tryz.func11, Tryz.ntmps11
      go_wp2_with fail
      refine wp_region_inv (by kernel_rfl) (by repeat (first | exact AllOps.nil | refine AllOps.cons (by decide) ?_)) (JR (mkDg (n : Int)) (FDg (n : Int) (q : Int) (r : Int) (btj D) (btj [z]) (btj D ++ btj [z])) w.heap.size w 11) ?h0 ?hs ?he
      case h0 =>
        exact ⟨fun k => if k = 10 then .string ⟨#[]⟩ else undef, rfl, fun i hi hq => by simp at hq; omega, ⟨rfl, rfl, rfl, Nat.le_refl _, fun _ _ => rfl⟩, Nat.le_refl _⟩
      case he =>
        intro L b W hJ hall
        obtain ⟨U, rfl, hF, hG, hz⟩ := hJ.ex
        have e10 : U 10 = .string (btj D ++ btj [z]) := hF 10 (by omega) (hall 10 (by decide))
        have HG := Lib.hid hG
        unfold mkDg
        rw [e10]
        clear hF hG hall hJ e10
        go_wp2_with fail
        go_ret
        exact ⟨by rw [HF.out]; rfl, HG.out⟩
      case hs =>
        refine AllOps.cons (fun L b W hJ hi hd K hK => ?_) ?_
        · obtain ⟨U, rfl, hF, hG, hz⟩ := hJ.ex
          unfold mkDg
          go_simp
          refine hK.out _ _ ?_
          refine JR.to ?_ (JR.next FDg.more 0 (.int .i64 (n : Int)) hF hG hz (Below.refl _ _) rfl)
          rfl
        refine AllOps.cons (fun L b W hJ hi hd K hK => ?_) ?_
        · obtain ⟨U, rfl, hF, hG, hz⟩ := hJ.ex
          have e0 : U 0 = .int .i64 (n : Int) := hF 0 (by omega) (hd ⟨0, .data⟩ (by simp) rfl)
          unfold mkDg
          rw [e0]
          go_simp
          refine hK.out _ _ ?_
          refine JR.to ?_ (JR.next FDg.more 1 (.int .i64 (q : Int)) hF hG hz (Below.refl _ _) rfl)
          unfold mkDg updU
          simp [e0]
        refine AllOps.cons (fun L b W hJ hi hd K hK => ?_) ?_
        · obtain ⟨U, rfl, hF, hG, hz⟩ := hJ.ex
          have e1 : U 1 = .int .i64 (q : Int) := hF 1 (by omega) (hd ⟨1, .data⟩ (by simp) rfl)
          unfold mkDg
          rw [e1]
          go_simp
          go_at_call 11
          refine (HC.out W).mono ?_
          rintro e W' ⟨rfl, hbx⟩
          go_wp2_with fail
          refine hK.out _ _ ?_
          refine JR.to ?_ (JR.next FDg.more 2 (.string (btj D)) hF hG hz hbx rfl)
          unfold mkDg updU
          simp [e1]
        refine AllOps.cons (fun L b W hJ hi hd K hK => ?_) ?_
        · obtain ⟨U, rfl, hF, hG, hz⟩ := hJ.ex
          unfold mkDg
          go_simp
          refine hK.out _ _ ?_
          refine JR.to ?_ (JR.next FDg.more 3 (.int .i64 (n : Int)) hF hG hz (Below.refl _ _) rfl)
          rfl
        refine AllOps.cons (fun L b W hJ hi hd K hK => ?_) ?_
        · obtain ⟨U, rfl, hF, hG, hz⟩ := hJ.ex
          have e3 : U 3 = .int .i64 (n : Int) := hF 3 (by omega) (hd ⟨3, .data⟩ (by simp) rfl)
          unfold mkDg
          rw [e3]
          go_simp
          refine hK.out _ _ ?_
          refine JR.to ?_ (JR.next FDg.more 4 (.int .i64 (r : Int)) hF hG hz (Below.refl _ _) rfl)
          unfold mkDg updU
          simp [e3]
        refine AllOps.cons (fun L b W hJ hi hd K hK => ?_) ?_
        · obtain ⟨U, rfl, hF, hG, hz⟩ := hJ.ex
          have e4 : U 4 = .int .i64 (r : Int) := hF 4 (by omega) (hd ⟨4, .data⟩ (by simp) rfl)
          unfold mkDg
          rw [e4]
          go_simp
          refine hK.out _ _ ?_
          refine JR.to ?_ (JR.next FDg.more 5 (.int .i64 (48 + (r : Int))) hF hG hz (Below.refl _ _) rfl)
          unfold mkDg updU
          simp [e4]
        refine AllOps.cons (fun L b W hJ hi hd K hK => ?_) ?_
        · obtain ⟨U, rfl, hF, hG, hz⟩ := hJ.ex
          have e5 : U 5 = .int .i64 (48 + (r : Int)) := hF 5 (by omega) (hd ⟨5, .data⟩ (by simp) rfl)
          unfold mkDg
          rw [e5]
          go_simp
          refine hK.out _ _ ?_
          refine JR.to ?_ (JR.next FDg.more 6 (.int .u8 (48 + (r : Int))) hF hG hz (Below.refl _ _) rfl)
          unfold mkDg updU
          simp [e5]
        refine AllOps.cons (fun L b W hJ hi hd K hK => ?_) ?_
        · obtain ⟨U, rfl, hF, hG, hz⟩ := hJ.ex
          have e6 : U 6 = .int .u8 (48 + (r : Int)) := hF 6 (by omega) (hd ⟨6, .data⟩ (by simp) rfl)
          unfold mkDg
          rw [e6]
          go_simp
          refine hK.out _ _ ?_
          refine JR.to ?_ (JR.next FDg.more 7 (.slice (some ⟨W.heap.size, 0, none⟩) 1 1) hF hG hz ((Below.refl _ _).alloc (Nat.le_refl _) _) ⟨W.heap.size, rfl, by simp, (Blk.new W _ _).cell 0⟩)
          unfold mkDg updU
          simp [e6]
        refine AllOps.cons (fun L b W hJ hi hd K hK => ?_) ?_
        · obtain ⟨U, rfl, hF, hG, hz⟩ := hJ.ex
          obtain ⟨g, e7, hgl, hgc⟩ : ∃ g, U 7 = .slice (some ⟨g, 0, none⟩) 1 1 ∧ g < W.heap.size ∧ W.cell? ⟨g, 0, none⟩ = some (.int .u8 (48 + (r : Int))) := hF 7 (by omega) (hd ⟨7, .data⟩ (by simp) rfl)
          unfold mkDg
          rw [e7]
          have hcv := hs1 W g hgc
          go_simp
          refine hK.out _ _ ?_
          refine JR.to ?_ (JR.next FDg.more 8 (.string (btj [z])) hF hG hz (Below.refl _ _) rfl)
          unfold mkDg updU
          simp [e7]
        refine AllOps.cons (fun L b W hJ hi hd K hK => ?_) ?_
        · obtain ⟨U, rfl, hF, hG, hz⟩ := hJ.ex
          have e2 : U 2 = .string (btj D) := hF 2 (by omega) (hd ⟨2, .data⟩ (by simp) rfl)
          have e8 : U 8 = .string (btj [z]) := hF 8 (by omega) (hd ⟨8, .data⟩ (by simp) rfl)
          unfold mkDg
          rw [e2, e8]
          go_simp
          refine hK.out _ _ ?_
          refine JR.to ?_ (JR.next FDg.more 9 (.string (btj D ++ btj [z])) hF hG hz (Below.refl _ _) rfl)
          unfold mkDg updU
          simp [e2, e8]
        refine AllOps.cons (fun L b W hJ hi hd K hK => ?_) ?_
        · obtain ⟨U, rfl, hF, hG, hz⟩ := hJ.ex
          have e9 : U 9 = .string (btj D ++ btj [z]) := hF 9 (by omega) (hd ⟨9, .data⟩ (by simp) rfl)
          unfold mkDg
          rw [e9]
          go_simp
          refine hK.out _ _ ?_
          refine JR.to ?_ (JR.next FDg.more 10 (.string (btj D ++ btj [z])) hF hG hz (Below.refl _ _) rfl)
          unfold mkDg updU
          simp [e9]
        exact AllOps.nil
end Go.Proofs.YtmohfibgefcefaaGreatDoor
