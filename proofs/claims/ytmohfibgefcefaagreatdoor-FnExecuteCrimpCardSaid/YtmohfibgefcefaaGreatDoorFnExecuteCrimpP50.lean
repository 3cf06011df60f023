/- A line answered: the deferred closure of 'answer'. No condition but sizes. The program's Execute over lines, each told by what 'answer' does. No condition but sizes. The desk's commands on angles and folds. No condition but sizes, and what the table of powers of ten holds. A line answered, whatever it does to the desk. No condition but sizes. -/
import Derived.Test.YtmohfibgefcefaaGreatDoorFnExecuteCrimpP48
import Derived.Defers
import Derived.Recover
import Derived.Test.YtmohfibgefcefaaGreatDoorStrE
import Derived.Lib.AppendStr
import Derived.Test.YtmohfibgefcefaaGreatDoorFnExecuteCrimpP49
import Derived.Test.YtmohfibgefcefaaGreatDoorVMany
import Derived.Test.YtmohfibgefcefaaGreatDoorImplD
namespace Go.Proofs.YtmohfibgefcefaaGreatDoor
open Go.RowKit Go.Extern.Stop Go.Stop Go.Extern

theorem grown_setE (w : World) (g i : Nat) (v : Value) : w.grownBy (w.setCell ⟨g, i, none⟩ v) (some g) :=
  ⟨rfl, rfl, rfl, by simp, fun n hn hne => heap_setCell_other w ⟨g, i, none⟩ n v (by intro e; apply hne; exact congrArg some e)⟩
set_option maxRecDepth 100000 in
set_option maxHeartbeats 2000000 in
/-- the deferred closure behind a line that was done: recover finds nothing, and nothing turns -/
theorem answer_idle (p : Addr) (w : World) :
    CallsD Tryz.prog 77 #[.pointer (some p)] .returning w fun e u' w' => e = .returned (.tuple #[]) ∧ u' = .returning ∧ Below w.heap.size w w' := by
  have hta : ∀ W : World, (Instr.typeAssert .nilIface 20 107 true).run Tryz.prog W = .ok (.tuple #[.agg #[.string ⟨#[]⟩], .bool false]) W := fun _ => by kernel_rfl
  refine callsD_of_wpS Tryz.func77 rfl fun c₀ cs hu => ?_
  apply wpS_seq
  apply wpS_region
  simp [wpOpsS, go_sem, recoverD, hu, hta, Tryz.ntmps77, Exit.thenS]
  apply wpS_seq
  apply wpS_region
  simp [wpOpsS, go_sem, Exit.thenS]
  refine wpS_cond (t := false) (by simp [Act.eval, Array.replicate]) ?_
  simp only [Bool.false_eq_true, if_false]
  refine wpS_of_wp (wp_skip ?_)
  cases c₀
  simp_all [bodyPostS, results, Tryz.results77]
  exact (Below.refl _ _).alloc (Nat.le_refl _) _
set_option maxRecDepth 100000 in
set_option maxHeartbeats 2000000 in
theorem impl_answer (td : Nat) (L out : ByteArray) (w : World) (HD : ∀ W : World, Below w.heap.size w W → Calls Tryz.prog 78 #[.pointer (some ⟨td, 0, none⟩), .string L] W fun e w' => e = .returned (.string out) ∧ Below W.heap.size W w') :
    Calls Tryz.prog 37 #[.pointer (some ⟨td, 0, none⟩), .string L] w fun e w' => e = .returned (.string out) ∧ Below w.heap.size w w' := by
  have hmf : ∀ (fn : Fn) (first cap : Array Value) (w : World), (Instr.makeFunc fn first cap).run Tryz.prog w = .ok (.func fn first cap) w := fun _ _ _ _ => rfl
  have HDD := Lib.hid HD
  clear HD
  go_enter_defers Tryz.func37, Tryz.ntmps37
  go_wp2_with fail
  refine (HDD.out _ ((Below.refl _ _).alloc (Nat.le_refl _) _)).mono ?_
  rintro e w2 ⟨rfl, hb2⟩
  have hk := (Blk.new w 9 #[.string ⟨#[]⟩]).below hb2 (Blk.new w 9 #[.string ⟨#[]⟩]).lt
  have c0 : w2.cell? ⟨w.heap.size, 0, none⟩ = some (.string ⟨#[]⟩) := hk.cell 0
  have f0 := hk.frozen 0
  have HB2 : Hid (Below w.heap.size w w2) := ((Below.refl w.heap.size w).alloc (Nat.le_refl _) _).trans (hb2.mono (by simp))
  have HK := Lib.hid hk
  clear hb2 hk
  go_wp2_with fail
  have hk3 : Blk (w2.setCell ⟨w.heap.size, 0, none⟩ (.string out)) w.heap.size 9 #[.string out] := by simpa using HK.out.set_ 0 (.string out)
  refine leaves_cons (f := 77) (args := #[.pointer (some ⟨w.heap.size, 0, none⟩)]) (by simp) (by simp [go_sem]) ?_
  refine (answer_idle ⟨w.heap.size, 0, none⟩ _).mono ?_
  rintro e u' w'' ⟨rfl, rfl, hb⟩
  have c9 : w''.cell? ⟨w.heap.size, 0, none⟩ = some (.string out) := (hk3.below hb hk3.lt).cell 0
  have hfin : Below w.heap.size w w'' := (HB2.out.grown (grown_setE w2 w.heap.size 0 (.string out)) HB2.out.size (fun g e => by cases e; exact Nat.le_refl _)).trans (hb.mono (by simpa using HB2.out.size))
  simp [Leaves, settle, results, Tryz.results37, go_sem, c9]
  exact hfin
end Go.Proofs.YtmohfibgefcefaaGreatDoor
namespace Go.Proofs.YtmohfibgefcefaaGreatDoor
open Go.RowKit

/-- what the desk holds -/
def Desk (w : World) (td : Nat) (xs : List Int) (f : List UInt8) : Prop :=
  ∃ A c, Blk w td 68 #[.slice A xs.length c, .string (btj f)] ∧ Ints w A xs ∧ xs.length ≤ c ∧ c ≤ maxLen ∧ ∀ a, A = some a → ∃ cs z, w.heap[a.block]? = some (.cells cs 3 z)
/-- lines, each ended -/
def scr (ls : List (List UInt8)) : List UInt8 := ls.flatMap fun l => l ++ [10]
theorem join_scr (ls : List (List UInt8)) : joinC 10 (ls ++ [[]]) = scr ls := by
  induction ls with
  | nil => rfl
  | cons x r ih =>
    have : ∃ y q, r ++ [[]] = y :: q := by
      cases r with
      | nil => exact ⟨_, _, rfl⟩
      | cons y q => exact ⟨_, _, rfl⟩
    obtain ⟨y, q, e⟩ := this
    show joinC 10 (x :: (r ++ [[]])) = _
    rw [e] at ih ⊢
    show x ++ 10 :: joinC 10 (y :: q) = _
    rw [ih]; simp [scr]
/-- what a script has told behind so many lines -/
def outTo (out : Nat → List UInt8) (n : Nat) : List UInt8 := (List.range n).flatMap fun k => out k ++ [10]
theorem outTo_succ (out : Nat → List UInt8) (n : Nat) : outTo out (n + 1) = (outTo out n ++ out n) ++ [10] := by
  unfold outTo
  rw [List.range_succ, List.flatMap_append]; simp
theorem outTo_len {out : Nat → List UInt8} (h : ∀ k, (out k).length ≤ 10000) (n : Nat) : (outTo out n).length ≤ n * 10001 := by
  induction n with
  | zero => simp [outTo]
  | succ n ih => rw [outTo_succ]; have := h n; simp; omega
theorem byteVals_app (bs : List UInt8) (s : List UInt8) : byteVals bs ++ Go.Lib.strCells (btj s) = byteVals (bs ++ s) := by
  unfold byteVals; rw [List.map_append]; rfl
theorem wpList_appText {ops : Array Oper} {rest : List Oper} {o : Oper} {a : Act} {Q : Exit → Act → World → Prop} {W : World} (hgd : o.guard = none) (s x : Operand)
    (ho : o.op = .call { callee := .builtin .append, args := #[s, x], argTypes := #[22, 9] })
    (B : Nat) (v : Value) (bs : List UInt8) (t : List UInt8) (hs : a.eval s = v) (hx : a.eval x = .string (btj t)) (hown : OwnB W B v bs) (hB : B ≤ W.heap.size) (hn : bs.length + t.length ≤ 1000000000000)
    (h : ∀ v' w', OwnB w' B v' (bs ++ t) → W.grownBy w' v.ownBlock → Below B W w' → wpList Tryz.prog ops Q rest (a.put o.dst v') w') :
    wpList Tryz.prog ops Q (o :: rest) a W := by
  obtain ⟨i0, hi, hz0, hz1, hz2⟩ := info_parts Tryz.infoByte
  have hsz : (btj t).size = t.length := by show t.toArray.size = _; simp
  refine Go.Lib.wpList_append_own_string (P := Tryz.prog) W hgd s x 22 9 ho B 5 i0 Tryz.underlying22 Tryz.underlying9 hi hz0 hz1 hz2 v _ _ hs hown (btj t) hx (by rw [hsz]; unfold maxLen; omega) (by rw [hsz]; omega) hB ?_
  intro v' w' h1 h2 _
  rw [byteVals_app, hsz, ← List.length_append] at h1
  exact h v' w' h1 h2 ((Below.refl _ _).grown h2 hB fun k hk => (hown.lt k hk).1)
theorem own_keepE {w w' : World} {B : Nat} {e : TypeId} {z n : Nat} {v : Value} {xs : List Value} (h : w.ownsRow B e z v n xs) (hb : Below w.heap.size w w') : w'.ownsRow B e z v n xs :=
  h.kept (row := none) ⟨hb.os, hb.tape, hb.output, hb.size, fun i hi _ => hb.block i hi⟩ (by cases hv : v.ownBlock <;> simp)
theorem cell_blk {w w' : World} {b : Nat} (h : w'.heap[b]? = w.heap[b]?) (i : Nat) : w'.cell? ⟨b, i, none⟩ = w.cell? ⟨b, i, none⟩ := by
  unfold World.cell?
  simp only []
  rw [h]
theorem Desk.far {w w' : World} {td : Nat} {xs : List Int} {f : List UInt8} {row : Option Nat} (h : Desk w td xs f) (hg : w.grownBy w' row) (h1 : ∀ g, row = some g → ∃ cs t z, w.heap[g]? = some (.cells cs t z) ∧ t ≠ 68 ∧ t ≠ 3) : Desk w' td xs f := by
  obtain ⟨A, c, hk, hi, hc, hm, hty⟩ := h
  have hne : ∀ b cs t z, w.heap[b]? = some (.cells cs t z) → (t = 68 ∨ t = 3) → some b ≠ row := by
    intro b cs t z hb ht e
    obtain ⟨cs', t', z', h2, h3, h4⟩ := h1 b e.symm
    rw [hb] at h2
    injection h2 with h2
    injection h2 with _ h5
    subst h5
    rcases ht with rfl | rfl
    · exact h3 rfl
    · exact h4 rfl
  refine ⟨A, c, hk.grown hg (hne td _ _ _ hk (Or.inl rfl)), ?_, hc, hm, ?_⟩
  · intro hn
    obtain ⟨b, off, rfl, hb, hcell⟩ := hi hn
    obtain ⟨cs, z, hh⟩ := hty _ rfl
    exact ⟨b, off, rfl, Nat.lt_of_lt_of_le hb hg.size, fun j x hj => (cell_blk (hg.block b hb (hne b _ _ _ hh (Or.inr rfl))) _).trans (hcell j x hj)⟩
  · intro a ha
    obtain ⟨cs, z, hh⟩ := hty a ha
    exact ⟨cs, z, (hg.block a.block (Array.getElem?_eq_some_iff.1 hh).1 (hne _ _ _ _ hh (Or.inr rfl))).trans hh⟩
theorem Desk.own {w w' : World} {td : Nat} {xs : List Int} {f : List UInt8} {B : Nat} {e : TypeId} {z n : Nat} {v : Value} {L : List Value} (h : Desk w td xs f) (ho : w.ownsRow B e z v n L) (hg : w.grownBy w' v.ownBlock) (h1 : e ≠ 68) (h2 : e ≠ 3) : Desk w' td xs f := by
  refine h.far hg fun g hgg => ?_
  rcases ho.2 with ⟨rfl, _⟩ | ⟨g', cap, cur, rfl, _, hg', _⟩
  · cases hgg
  · cases hgg
    exact ⟨_, _, _, hg', h1, h2⟩
theorem Desk.below {w w' : World} {td : Nat} {xs : List Int} {f : List UInt8} (h : Desk w td xs f) (hb : Below w.heap.size w w') : Desk w' td xs f := by
  obtain ⟨A, c, hk, hi, hc, hm, hne⟩ := h
  exact ⟨A, c, hk.below hb hk.lt, hi.below hb, hc, hm, fun a ha => by
    obtain ⟨cs, z, hh⟩ := hne a ha
    exact ⟨cs, z, (hb.block a.block (Array.getElem?_eq_some_iff.1 hh).1).trans hh⟩⟩
theorem Desk.ne_ {w : World} {td : Nat} {xs : List Int} {f : List UInt8} {B : Nat} {e : TypeId} {z n : Nat} {v : Value} {L : List Value} (h : Desk w td xs f) (ho : w.ownsRow B e z v n L) (h1 : e ≠ 68) : v.ownBlock ≠ some td := by
  obtain ⟨A, c, hk, _⟩ := h
  exact own_blk_ne ho hk h1
theorem Desk.lt {w : World} {td : Nat} {xs : List Int} {f : List UInt8} (h : Desk w td xs f) : td < w.heap.size := by
  obtain ⟨A, c, hk, _⟩ := h
  exact hk.lt
set_option maxHeartbeats 4000000 in
set_option maxRecDepth 100000 in
theorem impl_Execute (m : Int) (ls : List (List UInt8)) (hl : (scr ls).length ≤ 300) (hx : ∀ x ∈ ls, (10 : UInt8) ∉ x) (hn : ls.length ≤ 300) (st : Nat → List Int × List UInt8) (out : Nat → List UInt8) (hs0 : st 0 = ([], [])) (hend : (st ls.length).1.length < 100) (hout : ∀ k, (out k).length ≤ 10000)
    (w : World) (hm : w.cell? ⟨0, 0, none⟩ = some (.int .i64 m)) (h0 : 0 < w.heap.size)
    (HA : ∀ k x, ls[k]? = some x → ∀ td W, w.heap.size ≤ td → Below w.heap.size w W → Desk W td (st k).1 (st k).2 → Calls Tryz.prog 37 #[.pointer (some ⟨td, 0, none⟩), .string (btj x)] W fun e w' => e = .returned (.string (btj (out k))) ∧ W.grownBy w' (some td) ∧ Desk w' td (st (k + 1)).1 (st (k + 1)).2) :
    Calls Tryz.prog 13 #[.string (btj (scr ls))] w fun e w' => e = .returned (.string (btj (outTo out ls.length ++ ([97, 110, 103, 108, 101, 115, 32] ++ Lib.decDigits (st ls.length).1.length ++ [10])))) ∧ Below w.heap.size w w' := by
  have hxa : ∀ x ∈ ls ++ [[]], (10 : UInt8) ∉ x := by
    intro x hx1
    rcases List.mem_append.1 hx1 with h | h
    · exact hx x h
    · rw [List.mem_singleton] at h; subst h; simp
  obtain ⟨L, hL⟩ : ∃ L, L = btj (scr ls) := ⟨_, rfl⟩
  have hLs : L.size = (scr ls).length := by rw [hL]; show (List.toArray _).size = _; simp
  have hcnt := count_join 10 (ls ++ [[]]) (by simp) hxa
  have hspl := split_join 10 (ls ++ [[]]) (by simp) hxa
  rw [join_scr, ← hL] at hcnt hspl
  have hc1 : Lib.countB L (btj [10]) = ls.length := by simp at hcnt; omega
  rw [hc1] at hspl
  have HSP : Hid (∀ W : World, W.cell? ⟨0, 0, none⟩ = some (.int .i64 m) → Calls Tryz.prog 36 #[.string L, .string ⟨#[10]⟩] W fun e w' => e = .returned (.slice (some ⟨W.heap.size, 0, none⟩) (ls.length + 1) (ls.length + 1)) ∧ w' = W.alloc (.cells (((ls ++ [[]]).map btj).map Value.string).toArray 9)) := by
    show ∀ W : World, _
    intro W hW
    have := Tryz.strings_Split L (btj [10]) m W (by omega) hW (Nat.le_refl 1)
    rw [hc1, hspl] at this
    exact this
  have HAA := Lib.hid HA
  have HOL := Lib.hid (fun k => outTo_len hout k)
  have HOU := Lib.hid hout
  have hLs2 : (L.size : Int) ≤ 300 := by omega
  rw [← hL]
  clear hxa hL hcnt hspl hc1 hx HA hout
  go_enter Tryz.func13, Tryz.ntmps13
  go_wp2_with fail
  obtain ⟨td, htd⟩ : ∃ td, td = w.heap.size := ⟨_, rfl⟩
  obtain ⟨w2, hw2⟩ : ∃ x, x = (w.alloc (.cells #[.slice none 0 0, .string ⟨#[]⟩] 68)).alloc (.cells #[] 5) := ⟨_, rfl⟩
  have hb2 : Below w.heap.size w w2 := by rw [hw2]; exact ((Below.refl _ _).alloc (Nat.le_refl _) _).alloc (by simp) _
  have hD2 : Desk w2 td (st 0).1 (st 0).2 := by
    rw [hs0]
    refine ⟨none, 0, ?_, Ints.nil _ _, Nat.le_refl _, by unfold maxLen; omega, fun a e => by cases e⟩
    rw [hw2, htd]; exact (Blk.new w _ _).alloc _
  have hO2 : OwnB w2 w.heap.size (.slice (some ⟨w.heap.size + 1, 0, none⟩) 0 0) (outTo out 0) := by
    have e : w.heap.size + 1 = (w.alloc (.cells #[.slice none 0 0, .string ⟨#[]⟩] 68)).heap.size := by simp
    rw [hw2, e]
    exact World.ownsRow_lit _ #[] 0 (by simp) (by unfold maxLen; omega) rfl
  have hm2 : w2.cell? ⟨0, 0, none⟩ = some (.int .i64 m) := (hb2.cell (p := ⟨0, 0, none⟩) h0).trans hm
  have HB2 := Lib.hid hb2
  have HD2 := Lib.hid hD2
  have HO2 := Lib.hid hO2
  have HTD : Hid (w.heap.size ≤ td) := Nat.le_of_eq htd.symm
  rw [← hw2, ← htd]
  clear hw2 hb2 hD2 hO2
  refine (HSP.out w2 hm2).mono ?_
  rintro e w3 ⟨rfl, hw3⟩
  have hb3 : Below w2.heap.size w2 w3 := by rw [hw3]; exact (Below.refl _ _).alloc (Nat.le_refl _) _
  have HB3 := Lib.hid (HB2.out.trans (hb3.mono HB2.out.size))
  have HD3 := Lib.hid (HD2.out.below hb3)
  have HO3 : Hid (OwnB w3 w.heap.size (.slice (some ⟨td + 1, 0, none⟩) 0 0) (outTo out 0)) := by
    show OwnB _ _ _ _
    rw [htd]; exact own_keepE HO2.out hb3
  have HK3 : Hid (Blk w3 w2.heap.size 9 (((ls ++ [[]]).map btj).map Value.string).toArray) := by show Blk _ _ _ _; rw [hw3]; exact Blk.new w2 _ _
  obtain ⟨lb, hlb⟩ : ∃ lb, lb = w2.heap.size := ⟨_, rfl⟩
  have HLB : Hid (td ≠ lb) := by show _ ≠ _; rw [hlb]; exact Nat.ne_of_lt HD2.out.lt
  rw [← hlb] at HK3 ⊢
  clear hw3 hb3 HB2 HD2 HO2 hlb HSP hm2 htd
  go_wp2_with fail
  go_loopg [4, 7, 22] (ls.length + 1) (fun gg s4 s7 s22 wr => ∃ (k : Nat), s7 = s7 ∧ k ≤ ls.length ∧ s22 = .int .i64 k ∧ ls.length - k < gg ∧ Hid (Below w.heap.size w wr) ∧ Hid (Desk wr td (st k).1 (st k).2) ∧ Hid (OwnB wr w.heap.size s4 (outTo out k)) ∧ Hid (Blk wr lb 9 (((ls ++ [[]]).map btj).map Value.string).toArray))
  case atStart => exact ⟨0, rfl, Nat.zero_le _, rfl, by omega, HB3, HD3, HO3, HK3⟩
  case round =>
    clear HB3 HD3 HO3 HK3
    obtain ⟨k, _, hk, rfl, hg, HB, HD, HO, HK⟩ := hrel
    cases gk with
    | zero => omega
    | succ g1 =>
    by_cases hlt : k < ls.length
    · have k1 : (k : Int) < (ls.length : Int) := by omega
      have k0 : (0 : Int) ≤ (k : Int) := by omega
      obtain ⟨x, hx⟩ : ∃ x, x = ls[k] := ⟨_, rfl⟩
      have hget : ls[k]? = some x := by rw [hx]; exact List.getElem?_eq_getElem hlt
      have n1 : wr.cell? ⟨lb, k, none⟩ = some (.string (btj x)) := by
        rw [HK.out.cell k]
        have : ((ls ++ [[]]).map btj).map Value.string = ls.map (fun x => Value.string (btj x)) ++ [Value.string (btj [])] := by simp
        rw [this]
        rw [List.getElem?_toArray, List.getElem?_append_left (by simpa using hlt), List.getElem?_map, hget]; rfl
      have HCA := Lib.hid (HAA.out k x hget td wr HTD.out HB.out HD.out)
      clear hx hget
      go_wp2_with fail
      refine HCA.out.mono ?_
      rintro e w5 ⟨rfl, hg5, hd5⟩
      have HB5 := Lib.hid (HB.out.grown hg5 HB.out.size (fun g e => by cases e; exact HTD.out))
      have HO5 := Lib.hid (HO.out.kept hg5 (Or.inr (HD.out.ne_ HO.out (by decide))))
      have HK5 := Lib.hid (HK.out.grown hg5 (fun e => HLB.out (Option.some.inj e).symm))
      have HD5 := Lib.hid hd5
      have hol := HOL.out k
      have houk := HOU.out k
      clear hg5 hd5 HB HO HK HD
      go_wp2_with (at_builtin; go_loud (refine wpList_appText (W := w5) rfl _ _ rfl w.heap.size _ (outTo out k) (out k) (by rfl) (by rfl) HO5.out HB5.out.size (by omega) ?_))
      intro v6 w6 ho6 hg6 hb6
      have HD6 := Lib.hid (HD5.out.own HO5.out hg6 (by decide) (by decide))
      have HB6 := Lib.hid (HB5.out.trans hb6)
      have HK6 := Lib.hid (HK5.out.grown hg6 (own_blk_ne HO5.out HK5.out (by decide)).symm)
      have HO6 := Lib.hid ho6
      clear ho6 hg6 hb6 HB5 HO5 HK5 HD5
      go_wp2_with (at_builtin; go_loud (refine wpList_pushB (W := w6) rfl _ _ rfl w.heap.size _ (outTo out k ++ out k) 10 10 rfl (by rfl) (by rfl) HO6.out HB6.out.size (by rw [List.length_append]; omega) ?_))
      intro v7 w7 ho7 hg7 hb7
      rw [← List.append_assoc, ← outTo_succ] at ho7
      have HD7 := Lib.hid (HD6.out.own HO6.out hg7 (by decide) (by decide))
      have HB7 := Lib.hid (HB6.out.trans hb7)
      have HK7 := Lib.hid (HK6.out.grown hg7 (own_blk_ne HO6.out HK6.out (by decide)).symm)
      have HO7 := Lib.hid ho7
      clear ho7 hg7 hb7 HB6 HO6 HK6 HD6
      go_wp2_with fail
      go_roundg g1
      case measure => omega
      case rel => exact ⟨k + 1, trivial, by omega, by go_num, by omega, HB7, HD7, HO7, HK7⟩
    · obtain rfl : k = ls.length := by omega
      obtain ⟨A8, c8, hk8, hi8, hc8, hm8, _⟩ := HD.out
      have q0 : wr.cell? ⟨td, 0, none⟩ = some (.slice A8 (st ls.length).1.length c8) := hk8.cell 0
      have HIT := Lib.hid (Tryz.strconv_Itoa_small (st ls.length).1.length hend wr)
      have hcat : ((⟨#[97, 110, 103, 108, 101, 115, 32]⟩ : ByteArray) ++ ⟨(Lib.decDigits (st ls.length).1.length).toArray⟩) ++ ⟨#[10]⟩ = btj ([97, 110, 103, 108, 101, 115, 32] ++ Lib.decDigits (st ls.length).1.length ++ [10]) := by
        apply ByteArray.ext; apply Array.ext'
        simp [ByteArray.data_append]
      have HCAT := Lib.hid hcat
      have hol := HOL.out ls.length
      have hdl : (Lib.decDigits (st ls.length).1.length).length ≤ 2 := by
        by_cases h10 : (st ls.length).1.length < 10
        · rw [Lib.decDigits_one h10]; simp
        · rw [Lib.decDigits_two h10 hend]; simp
      clear hk8 hi8 hc8 hm8 hcat
      go_wp2_with fail
      refine HIT.out.mono ?_
      rintro e w9 ⟨rfl, rfl⟩
      go_wp2_with (at_builtin; go_loud (refine wpList_appText (W := w9) rfl _ _ rfl w.heap.size _ (outTo out ls.length) ([97, 110, 103, 108, 101, 115, 32] ++ Lib.decDigits (st ls.length).1.length ++ [10]) (by rfl) (congrArg Value.string HCAT.out) HO.out HB.out.size (by rw [List.length_append, List.length_append]; simp; omega) ?_))
      intro v6 w6 ho6 hg6 hb6
      have HB6 := Lib.hid (HB.out.trans hb6)
      have HO6 := Lib.hid (run_ownB_string ho6)
      clear ho6 hg6 hb6
      go_wp2_with fail
      rw [HO6.out]
      go_wp2_with fail
      go_ret
      exact ⟨rfl, HB6.out⟩
end Go.Proofs.YtmohfibgefcefaaGreatDoor
namespace Go.Proofs.YtmohfibgefcefaaGreatDoor
open Go.RowKit

/-- the numbers of words -/
def numsV (ws : List (List UInt8)) : List Int := ws.map fun x => ((numV x : Nat) : Int)
theorem numsV_len (ws : List (List UInt8)) : (numsV ws).length = ws.length := by simp [numsV]
theorem btj_size (x : List UInt8) : (btj x).size = x.length := by show x.toArray.size = _; simp
set_option maxHeartbeats 2000000 in
set_option maxRecDepth 100000 in
theorem impl_numbersOf (A : Option Addr) (c : Nat) (ws : List (List UInt8)) (w : World) (h : Strs w A ws) (hl : ws.length ≤ 1000) :
    Calls Tryz.prog 154 #[.slice A ws.length c] w fun e w' => ∃ v, e = .returned v ∧ Own w' w.heap.size v (numsV ws) ∧ Below w.heap.size w w' := by
  obtain ⟨i0, hi, hz0, hz1, hz2⟩ := info_parts Tryz.infoInt
  obtain ⟨w2, hrun, hown2, hg2⟩ := run_make_own (P := Tryz.prog) w w.heap.size 35 3 i0 (.int .i64 0) 1 Tryz.underlying35 hi hz0 hz1 .i64 .i64 ws.length (by rw [hz2]; omega) (by unfold maxLen; omega) (Nat.le_refl _)
  have HRun : Hid ((Instr.makeSlice 35 (.int .i64 0) (.int .i64 ws.length)).run Tryz.prog w = .ok (.slice (some ⟨w.heap.size, 0, none⟩) 0 ws.length) w2) := by
    show _ = _
    have := hrun
    simpa using this
  have hb2 : Below w.heap.size w w2 := (Below.refl _ _).grown hg2 (Nat.le_refl _) (by intro k hk; cases hk)
  have HO2 : Hid (Own w2 w.heap.size (.slice (some ⟨w.heap.size, 0, none⟩) 0 ws.length) (numsV (ws.take 0))) := hown2
  have HB2 := Lib.hid hb2
  have HS := Lib.hid h
  clear hi hz0 hz1 hz2 hrun hown2 hg2 hb2 h
  go_enter Tryz.func154, Tryz.ntmps154
  go_wp2_with fail
  rw [HRun.out]
  clear HRun
  go_wp2_with fail
  go_loopg [3, 5, 11] (ws.length + 1) (fun gg s3 s5 s11 wr => ∃ (k : Nat), s5 = s5 ∧ k ≤ ws.length ∧ s11 = .int .i64 k ∧ ws.length - k < gg ∧ Hid (Below w.heap.size w wr) ∧ Hid (Own wr w.heap.size s3 (numsV (ws.take k))) )
  case atStart => exact ⟨0, rfl, Nat.zero_le _, rfl, by omega, HB2, HO2⟩
  case round =>
    clear HB2 HO2
    obtain ⟨k, _, hk, rfl, hg, HB, HO⟩ := hrel
    cases gk with
    | zero => omega
    | succ g1 =>
    by_cases hlt : k < ws.length
    · have k1 : (k : Int) < (ws.length : Int) := by omega
      have k0 : (0 : Int) ≤ (k : Int) := by omega
      obtain ⟨b, off, rfl, hbb, hcc⟩ := (HS.out.below HB.out) (by intro e; subst e; simp at hlt)
      obtain ⟨x, hx⟩ : ∃ x, x = ws[k] := ⟨_, rfl⟩
      have n1 : wr.cell? ⟨b, off + k, none⟩ = some (.string (btj x)) := hcc k x (by rw [hx]; exact List.getElem?_eq_getElem hlt)
      have HN := Lib.hid (fun W : World => impl_numberOf (btj x) W)
      have HT : Hid (numsV (ws.take (k + 1)) = numsV (ws.take k) ++ [((numV x : Nat) : Int)]) := by
        show _ = _
        rw [List.take_succ_eq_append_getElem hlt, ← hx]; unfold numsV; rw [List.map_append]; rfl
      have HTL : Hid ((numsV (ws.take k)).length ≤ 1000) := by
        show _ ≤ _
        rw [numsV_len, List.length_take]; omega
      have hz1 := HB.out.size
      have HN2 : Hid (∀ W : World, Calls Tryz.prog 156 #[.string (btj x)] W fun e w' => e = .returned (.int .i64 (numV x : Nat)) ∧ W = w') := HN.out
      obtain ⟨z, hz⟩ : ∃ z : Int, z = ((numV x : Nat) : Int) := ⟨_, rfl⟩
      rw [← hz] at HN2 HT
      clear hx hcc HN hz
      go_wp2_with fail
      refine (HN2.out _).mono ?_
      rintro e _ ⟨rfl, rfl⟩
      go_wp2_with (at_builtin; go_loud (refine wpList_push (W := wr) rfl _ _ rfl w.heap.size _ (numsV (ws.take k)) z (by rfl) (by rfl) HO.out hz1 (by have := HTL.out; omega) ?_))
      intro v7 w7 ho7 hg7 hb7
      rw [← HT.out] at ho7
      have HO7 := Lib.hid ho7
      have HB7 := Lib.hid (HB.out.trans hb7)
      clear ho7 hg7 hb7
      go_wp2_with fail
      go_roundg g1
      case measure => omega
      case rel => exact ⟨k + 1, trivial, by omega, by go_num, by omega, HB7, HO7⟩
    · obtain rfl : k = ws.length := by omega
      have hO := HO.out
      rw [List.take_of_length_le (Nat.le_refl _)] at hO
      have HO8 := Lib.hid hO
      clear hO
      go_wp2_with fail
      go_ret
      exact ⟨_, rfl, HO8.out, HB.out⟩
set_option maxHeartbeats 1000000 in
theorem impl_many (td n c : Nat) (A : Option Addr) (xs : List Int) (f : List UInt8) (w : World) (hD : Desk w td xs f) (hp : Pow w) (hv : avB xs = true) :
    Calls Tryz.prog 134 #[.pointer (some ⟨td, 0, none⟩), .slice A n c] w fun e w' => e = .returned (.tuple #[.string (btj (Lib.decDigits (cntV xs (2 ^ xs.length)))), .bool true]) ∧ Below w.heap.size w w' := by
  obtain ⟨A', c', hk, hi, hc, hm, _⟩ := hD
  have q0 : w.cell? ⟨td, 0, none⟩ = some (.slice A' xs.length c') := hk.cell 0
  have hvm := impl_VertexMany A' c' xs w hi (by omega)
  have hcnt := Nat.le_trans (cntV_le xs (2 ^ xs.length)) (pow_le_1024 ((avB_parts hv).2.2.1))
  have e : vmI xs = ((cntV xs (2 ^ xs.length) : Nat) : Int) := by unfold vmI; rw [if_pos hv]
  rw [e] at hvm
  obtain ⟨z, hz⟩ : ∃ z, z = cntV xs (2 ^ xs.length) := ⟨_, rfl⟩
  rw [← hz] at hvm hcnt ⊢
  have HVM := Lib.hid hvm
  have HCT := Lib.hid (fun (W : World) (hb : Below w.heap.size w W) => impl_countText z (by omega) W (hp.below hb))
  clear hk hi hc hm hvm e hz hv hp
  go_enter Tryz.func134, Tryz.ntmps134
  go_wp2_with fail
  refine HVM.out.mono ?_
  rintro e w1 ⟨rfl, hb1⟩
  have HCT1 := Lib.hid (HCT.out w1 hb1)
  have HB1 := Lib.hid hb1
  clear hb1 HCT HVM
  go_wp2_with fail
  refine HCT1.out.mono ?_
  rintro e w2 ⟨rfl, hb2⟩
  have HB2 := Lib.hid (HB1.out.trans (hb2.mono HB1.out.size))
  clear hb2
  go_wp2_with fail
  go_ret2
  exact ⟨rfl, HB2.out⟩
set_option maxHeartbeats 1000000 in
theorem impl_first (td n c : Nat) (A : Option Addr) (xs : List Int) (f : List UInt8) (w : World) (hD : Desk w td xs f) :
    Calls Tryz.prog 135 #[.pointer (some ⟨td, 0, none⟩), .slice A n c] w fun e w' => e = .returned (.tuple #[.string (vfoT xs), .bool (vfo xs).isSome]) ∧ Below w.heap.size w w' := by
  obtain ⟨A', c', hk, hi, hc, hm, _⟩ := hD
  have q0 : w.cell? ⟨td, 0, none⟩ = some (.slice A' xs.length c') := hk.cell 0
  have HV := Lib.hid (impl_VertexFirst A' c' xs w hi (by omega))
  clear hk hi hc hm
  go_enter Tryz.func135, Tryz.ntmps135
  go_wp2_with fail
  refine HV.out.mono ?_
  rintro e w1 ⟨rfl, hb1⟩
  go_wp2_with fail
  go_ret2
  exact ⟨rfl, hb1⟩
/-- what 'test' tells -/
def testT (xs : List Int) (f : List UInt8) : List UInt8 := if f = [] then [] else if vfB xs (btj f) then [102, 111, 108, 100, 115] else [115, 116, 117, 99, 107]
set_option maxHeartbeats 2000000 in
set_option maxRecDepth 100000 in
theorem impl_test (td n c : Nat) (A : Option Addr) (xs : List Int) (f : List UInt8) (w : World) (hD : Desk w td xs f) (hf : f.length ≤ 1000) :
    Calls Tryz.prog 136 #[.pointer (some ⟨td, 0, none⟩), .slice A n c] w fun e w' => e = .returned (.tuple #[.string (btj (testT xs f)), .bool (decide (f ≠ []))]) ∧ Below w.heap.size w w' := by
  obtain ⟨A', c', hk, hi, hc, hm, _⟩ := hD
  have q0 : w.cell? ⟨td, 0, none⟩ = some (.slice A' xs.length c') := hk.cell 0
  have q1 : w.cell? ⟨td, 1, none⟩ = some (.string (btj f)) := hk.cell 1
  have hsz : (btj f).size = f.length := btj_size f
  have HV := Lib.hid (fun W (hb : Below w.heap.size w W) => impl_VertexFolds A' c' xs (btj f) W (hi.below hb) (by omega) (by rw [hsz]; unfold maxLen; omega))
  have hlt := hk.lt
  clear hk hi hc hm hsz
  by_cases he : f = []
  · subst he
    go_enter Tryz.func136, Tryz.ntmps136
    go_wp2_with fail
    go_ret2
    exact ⟨rfl, Below.refl _ _⟩
  · have k2 : f.isEmpty = false := by
      cases f with
      | nil => exact absurd rfl he
      | cons _ _ => rfl
    have HT : Hid (testT xs f = if vfB xs (btj f) then [102, 111, 108, 100, 115] else [115, 116, 117, 99, 107]) := by show _ = _; unfold testT; rw [if_neg he]
    have HE : Hid (decide (f ≠ []) = true) := by show _ = _; simp [he]
    clear he
    go_enter Tryz.func136, Tryz.ntmps136
    go_wp2_with fail
    cases hvv : vfB xs (btj f) with
    | true =>
      rw [hvv] at HV HT
      clear hvv
      go_region_held3 (fun W => W.cell? ⟨td, 0, none⟩ = some (.slice A' xs.length c') ∧ W.cell? ⟨td, 1, none⟩ = some (.string (btj f)))
        (first | exact ⟨q0, q1⟩ | exact ⟨(hbx.cell (p := ⟨td, 0, none⟩) hlt).trans q0, (hbx.cell (p := ⟨td, 1, none⟩) hlt).trans q1⟩)
        ((go_simp; go_at_call 42; refine (HV.out _ (below_drewN (Below.refl _ _) _)).mono ?_; rintro e w6 ⟨rfl, hbx⟩))
      all_goals
        have HB6 := Lib.hid ((below_drewN (Below.refl w.heap.size w) 1).trans hbx)
        clear hbx
        go_wp2_with fail
        go_ret2
        exact ⟨by rw [HT.out, HE.out]; rfl, HB6.out⟩
    | false =>
      rw [hvv] at HV HT
      clear hvv
      go_region_held3 (fun W => W.cell? ⟨td, 0, none⟩ = some (.slice A' xs.length c') ∧ W.cell? ⟨td, 1, none⟩ = some (.string (btj f)))
        (first | exact ⟨q0, q1⟩ | exact ⟨(hbx.cell (p := ⟨td, 0, none⟩) hlt).trans q0, (hbx.cell (p := ⟨td, 1, none⟩) hlt).trans q1⟩)
        ((go_simp; go_at_call 42; refine (HV.out _ (below_drewN (Below.refl _ _) _)).mono ?_; rintro e w6 ⟨rfl, hbx⟩))
      all_goals
        have HB6 := Lib.hid ((below_drewN (Below.refl w.heap.size w) 1).trans hbx)
        clear hbx
        go_wp2_with fail
        go_ret2
        exact ⟨by rw [HT.out, HE.out]; rfl, HB6.out⟩
end Go.Proofs.YtmohfibgefcefaaGreatDoor
namespace Go.Proofs.YtmohfibgefcefaaGreatDoor
open Go.RowKit Go.Extern.Stop Go.Stop Go.Extern

set_option maxRecDepth 100000 in
set_option maxHeartbeats 2000000 in
theorem impl_answerG (td : Nat) (L out : ByteArray) (xs : List Int) (f : List UInt8) (w : World) (htd : td < w.heap.size) (HD : ∀ W : World, Below w.heap.size w W → Calls Tryz.prog 78 #[.pointer (some ⟨td, 0, none⟩), .string L] W fun e w' => e = .returned (.string out) ∧ W.grownBy w' (some td) ∧ Desk w' td xs f) :
    Calls Tryz.prog 37 #[.pointer (some ⟨td, 0, none⟩), .string L] w fun e w' => e = .returned (.string out) ∧ w.grownBy w' (some td) ∧ Desk w' td xs f := by
  have hmf : ∀ (fn : Fn) (first cap : Array Value) (w : World), (Instr.makeFunc fn first cap).run Tryz.prog w = .ok (.func fn first cap) w := fun _ _ _ _ => rfl
  have HDD := Lib.hid HD
  have HTD := Lib.hid htd
  clear HD htd
  go_enter_defers Tryz.func37, Tryz.ntmps37
  go_wp2_with fail
  refine (HDD.out _ ((Below.refl _ _).alloc (Nat.le_refl _) _)).mono ?_
  rintro e w2 ⟨rfl, hg2, hD2⟩
  have hne : some w.heap.size ≠ some td := fun e => by have := Option.some.inj e; have := HTD.out; omega
  have hk := (Blk.new w 9 #[.string ⟨#[]⟩]).grown hg2 hne
  have c0 : w2.cell? ⟨w.heap.size, 0, none⟩ = some (.string ⟨#[]⟩) := hk.cell 0
  have f0 := hk.frozen 0
  have hk3 : Blk (w2.setCell ⟨w.heap.size, 0, none⟩ (.string out)) w.heap.size 9 #[.string out] := by simpa using hk.set_ 0 (.string out)
  have hD3 : Desk (w2.setCell ⟨w.heap.size, 0, none⟩ (.string out)) td xs f := hD2.far (grown_setE w2 w.heap.size 0 (.string out)) fun g e => by
    cases e
    exact ⟨_, 9, _, hk, by decide, by decide⟩
  have hg3 : w.grownBy (w2.setCell ⟨w.heap.size, 0, none⟩ (.string out)) (some td) := by
    refine ⟨hg2.os, hg2.tape, hg2.output, ?_, fun i hi hne2 => ?_⟩
    · have := hg2.size
      simp at this ⊢
      omega
    · have h1 := (grown_setE w2 w.heap.size 0 (.string out)).block i (Nat.lt_of_lt_of_le (Nat.lt_succ_of_lt hi) (by have := hg2.size; simpa using this)) (by intro e; have := Option.some.inj e; omega)
      have h2 := hg2.block i (by simp; omega) hne2
      rw [h1, h2]
      exact Below.heap_alloc w _ i hi
  have HK3 := Lib.hid hk3
  have HD3 := Lib.hid hD3
  have HG3 := Lib.hid hg3
  clear hk3 hD3 hg3 hg2 hD2 hk
  go_wp2_with fail
  refine leaves_cons (f := 77) (args := #[.pointer (some ⟨w.heap.size, 0, none⟩)]) (by simp) (by simp [go_sem]) ?_
  refine (answer_idle ⟨w.heap.size, 0, none⟩ _).mono ?_
  rintro e u' w'' ⟨rfl, rfl, hb⟩
  have c9 : w''.cell? ⟨w.heap.size, 0, none⟩ = some (.string out) := (HK3.out.below hb HK3.out.lt).cell 0
  have hD9 := HD3.out.below hb
  have hg9 : w.grownBy w'' (some td) := by
    have h := HG3.out
    exact ⟨hb.os.trans h.os, hb.tape.trans h.tape, hb.output.trans h.output, Nat.le_trans h.size hb.size, fun i hi hne => (hb.block i (Nat.lt_of_lt_of_le hi h.size)).trans (h.block i hi hne)⟩
  simp [Leaves, settle, results, Tryz.results37, go_sem, c9]
  exact ⟨hg9, hD9⟩
theorem grown_belowK {w w' : World} {td : Nat} (hb : Below w.heap.size w w') : w.grownBy w' (some td) := ⟨hb.os, hb.tape, hb.output, hb.size, fun i hi _ => hb.block i hi⟩
/-- a line of a kind, answered -/
theorem impl_line (td : Nat) (x : List UInt8) (r : List (List UInt8)) (c : Nat) (hc : c < 10) (m : Int) (out res : List UInt8) (ok : Bool) (hres : res = if ok then out else [110, 111]) (xs xs' : List Int) (f f' : List UInt8) (w : World) (hm : w.cell? ⟨0, 0, none⟩ = some (.int .i64 m)) (h0 : 0 < w.heap.size) (hp : Pow w) (hD : Desk w td xs f) (ha : ∀ y ∈ x :: r, (32 : UInt8) ∉ y) (hl : (joinC 32 (x :: r)).length ≤ 300)
    (hk : cmdIs c x r.length = true)
    (HC : ∀ (b o : Nat) (W : World), Pow W → Desk W td xs f → (r ≠ [] → o = 1) → Blk W b 9 (wordsV (x :: r)) → Calls Tryz.prog (cmdFn c) #[.pointer (some ⟨td, 0, none⟩), .slice (some ⟨b, o, none⟩) r.length r.length] W fun e w' => e = .returned (.tuple #[.string (btj out), .bool ok]) ∧ W.grownBy w' (some td) ∧ Desk w' td xs' f') :
    Calls Tryz.prog 37 #[.pointer (some ⟨td, 0, none⟩), .string (btj (joinC 32 (x :: r)))] w fun e w' => e = .returned (.string (btj res)) ∧ w.grownBy w' (some td) ∧ Desk w' td xs' f' := by
  refine impl_answerG td _ (btj res) xs' f' w hD.lt fun W hb => ?_
  have e : btj res = if ok then btj out else ⟨#[110, 111]⟩ := by rw [hres]; cases ok <;> rfl
  rw [e]
  refine impl_do_cmd td x r c hc m (btj out) ok (fun w' => Desk w' td xs' f') W (Nat.lt_of_lt_of_le hD.lt hb.size) ((hb.cell (p := ⟨0, 0, none⟩) h0).trans hm) ha hl hk fun b o V hbV ho hB => ?_
  exact HC b o V ((hp.below hb).below hbV) ((hD.below hb).below hbV) ho hB
end Go.Proofs.YtmohfibgefcefaaGreatDoor
