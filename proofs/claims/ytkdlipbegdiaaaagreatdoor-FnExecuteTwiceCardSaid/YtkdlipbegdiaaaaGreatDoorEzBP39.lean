/- The program's Execute over lines, each told by what 'answer' does. No condition but sizes. The desk's commands on angles and folds. No condition but sizes, and what the table of powers of ten holds. The desk's command of a word. No condition but sizes. A line answered, whatever it does to the desk. No condition but sizes. The desk's commands that set angles and folds, and the crimp. No condition but sizes. -/
import Derived.Test.YtkdlipbegdiaaaaGreatDoorEzBP38
import Derived.Test.YtkdlipbegdiaaaaGreatDoorEzBP7
import Derived.Lib.AppendStr
import Derived.Test.YtkdlipbegdiaaaaGreatDoorEzBP14
import Derived.Test.YtkdlipbegdiaaaaGreatDoorEzBP24
import Derived.Test.YtkdlipbegdiaaaaGreatDoorEzBP37
namespace Go.Proofs.YtkdlipbegdiaaaaGreatDoor
open Go.RowKit
/-- what the desk holds -/
def Desk (w : World) (td : Nat) (xs : List Int) (f : List UInt8) : Prop :=
  ∃ A c, Blk w td 45 #[.slice A xs.length c, .string (btj f)] ∧ Ints w A xs ∧ xs.length ≤ c ∧ c ≤ maxLen ∧ ∀ a, A = some a → ∃ cs z, w.heap[a.block]? = some (.cells cs 3 z)
/-- lines, each ended -/
def scr (ls : List (List UInt8)) : List UInt8 := ls.flatMap fun l => l ++ [10]
/-- what a script has told behind so many lines -/
def outTo (out : Nat → List UInt8) (n : Nat) : List UInt8 := (List.range n).flatMap fun k => out k ++ [10]
theorem outTo_succ (out : Nat → List UInt8) (n : Nat) : outTo out (n + 1) = (outTo out n ++ out n) ++ [10] := by
  unfold outTo
  rw [List.range_succ, List.flatMap_append]; simp
theorem outTo_len {out : Nat → List UInt8} (h : ∀ k, (out k).length ≤ 10000) (n : Nat) : (outTo out n).length ≤ n * 10001 := by
  induction n with
  | zero => simp [outTo]
  | succ n ih => rw [outTo_succ]; have := h n; simp; omega
theorem byteVals_app (bs : List UInt8) (s : List UInt8) : byteVals bs ++ Go.Lib.strCells (btj s) = byteVals (bs ++ s) := by
  unfold byteVals; rw [List.map_append]; rfl
theorem wpList_appText {ops : Array Oper} {rest : List Oper} {o : Oper} {a : Act} {Q : Exit → Act → World → Prop} {W : World} (hgd : o.guard = none) (s x : Operand)
    (ho : o.op = .call { callee := .builtin .append, args := #[s, x], argTypes := #[22, 9] })
    (B : Nat) (v : Value) (bs : List UInt8) (t : List UInt8) (hs : a.eval s = v) (hx : a.eval x = .string (btj t)) (hown : OwnB W B v bs) (hB : B ≤ W.heap.size) (hn : bs.length + t.length ≤ 1000000000000)
    (h : ∀ v' w', OwnB w' B v' (bs ++ t) → W.grownBy w' v.ownBlock → Below B W w' → wpList Tryz.prog ops Q rest (a.put o.dst v') w') :
    wpList Tryz.prog ops Q (o :: rest) a W := by
  obtain ⟨i0, hi, hz0, hz1, hz2⟩ := info_parts Tryz.infoByte
  have hsz : (btj t).size = t.length := by show t.toArray.size = _; simp
  refine Go.Lib.wpList_append_own_string (P := Tryz.prog) W hgd s x 22 9 ho B 5 i0 Tryz.underlying22 Tryz.underlying9 hi hz0 hz1 hz2 v _ _ hs hown (btj t) hx (by rw [hsz]; unfold maxLen; omega) (by rw [hsz]; omega) hB ?_
  intro v' w' h1 h2 _
  rw [byteVals_app, hsz, ← List.length_append] at h1
  exact h v' w' h1 h2 ((Below.refl _ _).grown h2 hB fun k hk => (hown.lt k hk).1)
theorem own_keepE {w w' : World} {B : Nat} {e : TypeId} {z n : Nat} {v : Value} {xs : List Value} (h : w.ownsRow B e z v n xs) (hb : Below w.heap.size w w') : w'.ownsRow B e z v n xs :=
  h.kept (row := none) ⟨hb.os, hb.tape, hb.output, hb.size, fun i hi _ => hb.block i hi⟩ (by cases hv : v.ownBlock <;> simp)
theorem cell_blk {w w' : World} {b : Nat} (h : w'.heap[b]? = w.heap[b]?) (i : Nat) : w'.cell? ⟨b, i, none⟩ = w.cell? ⟨b, i, none⟩ := by
  unfold World.cell?
  simp only []
  rw [h]
theorem Desk.far {w w' : World} {td : Nat} {xs : List Int} {f : List UInt8} {row : Option Nat} (h : Desk w td xs f) (hg : w.grownBy w' row) (h1 : ∀ g, row = some g → ∃ cs t z, w.heap[g]? = some (.cells cs t z) ∧ t ≠ 45 ∧ t ≠ 3) : Desk w' td xs f := by
  obtain ⟨A, c, hk, hi, hc, hm, hty⟩ := h
  have hne : ∀ b cs t z, w.heap[b]? = some (.cells cs t z) → (t = 45 ∨ t = 3) → some b ≠ row := by
    intro b cs t z hb ht e
    obtain ⟨cs', t', z', h2, h3, h4⟩ := h1 b e.symm
    rw [hb] at h2
    injection h2 with h2
    injection h2 with _ h5
    subst h5
    rcases ht with rfl | rfl
    · exact h3 rfl
    · exact h4 rfl
  refine ⟨A, c, hk.grown hg (hne td _ _ _ hk (Or.inl rfl)), ?_, hc, hm, ?_⟩
  · intro hn
    obtain ⟨b, off, rfl, hb, hcell⟩ := hi hn
    obtain ⟨cs, z, hh⟩ := hty _ rfl
    exact ⟨b, off, rfl, Nat.lt_of_lt_of_le hb hg.size, fun j x hj => (cell_blk (hg.block b hb (hne b _ _ _ hh (Or.inr rfl))) _).trans (hcell j x hj)⟩
  · intro a ha
    obtain ⟨cs, z, hh⟩ := hty a ha
    exact ⟨cs, z, (hg.block a.block (Array.getElem?_eq_some_iff.1 hh).1 (hne _ _ _ _ hh (Or.inr rfl))).trans hh⟩
theorem Desk.own {w w' : World} {td : Nat} {xs : List Int} {f : List UInt8} {B : Nat} {e : TypeId} {z n : Nat} {v : Value} {L : List Value} (h : Desk w td xs f) (ho : w.ownsRow B e z v n L) (hg : w.grownBy w' v.ownBlock) (h1 : e ≠ 45) (h2 : e ≠ 3) : Desk w' td xs f := by
  refine h.far hg fun g hgg => ?_
  rcases ho.2 with ⟨rfl, _⟩ | ⟨g', cap, cur, rfl, _, hg', _⟩
  · cases hgg
  · cases hgg
    exact ⟨_, _, _, hg', h1, h2⟩
theorem Desk.below {w w' : World} {td : Nat} {xs : List Int} {f : List UInt8} (h : Desk w td xs f) (hb : Below w.heap.size w w') : Desk w' td xs f := by
  obtain ⟨A, c, hk, hi, hc, hm, hne⟩ := h
  exact ⟨A, c, hk.below hb hk.lt, hi.below hb, hc, hm, fun a ha => by
    obtain ⟨cs, z, hh⟩ := hne a ha
    exact ⟨cs, z, (hb.block a.block (Array.getElem?_eq_some_iff.1 hh).1).trans hh⟩⟩
theorem Desk.ne_ {w : World} {td : Nat} {xs : List Int} {f : List UInt8} {B : Nat} {e : TypeId} {z n : Nat} {v : Value} {L : List Value} (h : Desk w td xs f) (ho : w.ownsRow B e z v n L) (h1 : e ≠ 45) : v.ownBlock ≠ some td := by
  obtain ⟨A, c, hk, _⟩ := h
  exact own_blk_ne ho hk h1
theorem Desk.lt {w : World} {td : Nat} {xs : List Int} {f : List UInt8} (h : Desk w td xs f) : td < w.heap.size := by
  obtain ⟨A, c, hk, _⟩ := h
  exact hk.lt
end Go.Proofs.YtkdlipbegdiaaaaGreatDoor
namespace Go.Proofs.YtkdlipbegdiaaaaGreatDoor
open Go.RowKit
/-- the numbers of words -/
def numsV (ws : List (List UInt8)) : List Int := ws.map fun x => ((numV x : Nat) : Int)
theorem numsV_len (ws : List (List UInt8)) : (numsV ws).length = ws.length := by simp [numsV]
theorem btj_size (x : List UInt8) : (btj x).size = x.length := by show x.toArray.size = _; simp
set_option maxHeartbeats 2000000 in
set_option maxRecDepth 100000 in
theorem impl_numbersOf (A : Option Addr) (c : Nat) (ws : List (List UInt8)) (w : World) (h : Strs w A ws) (hl : ws.length ≤ 1000) :
    Calls Tryz.prog 128 #[.slice A ws.length c] w fun e w' => ∃ v, e = .returned v ∧ Own w' w.heap.size v (numsV ws) ∧ Below w.heap.size w w' := by
  obtain ⟨i0, hi, hz0, hz1, hz2⟩ := info_parts Tryz.infoInt
  obtain ⟨w2, hrun, hown2, hg2⟩ := run_make_own (P := Tryz.prog) w w.heap.size 23 3 i0 (.int .i64 0) 1 Tryz.underlying23 hi hz0 hz1 .i64 .i64 ws.length (by rw [hz2]; omega) (by unfold maxLen; omega) (Nat.le_refl _)
  have HRun : Hid ((Instr.makeSlice 23 (.int .i64 0) (.int .i64 ws.length)).run Tryz.prog w = .ok (.slice (some ⟨w.heap.size, 0, none⟩) 0 ws.length) w2) := by
    show _ = _
    have := hrun
    simpa using this
  have hb2 : Below w.heap.size w w2 := (Below.refl _ _).grown hg2 (Nat.le_refl _) (by intro k hk; cases hk)
  have HO2 : Hid (Own w2 w.heap.size (.slice (some ⟨w.heap.size, 0, none⟩) 0 ws.length) (numsV (ws.take 0))) := hown2
  have HB2 := Lib.hid hb2
  have HS := Lib.hid h
  clear hi hz0 hz1 hz2 hrun hown2 hg2 hb2 h
  go_enter Tryz.func128, Tryz.ntmps128
  go_wp2_with fail
  rw [HRun.out]
  clear HRun
  go_wp2_with fail
  go_loopg [3, 5, 11] (ws.length + 1) (fun gg s3 s5 s11 wr => ∃ (k : Nat), s5 = s5 ∧ k ≤ ws.length ∧ s11 = .int .i64 k ∧ ws.length - k < gg ∧ Hid (Below w.heap.size w wr) ∧ Hid (Own wr w.heap.size s3 (numsV (ws.take k))) )
  case atStart => exact ⟨0, rfl, Nat.zero_le _, rfl, by omega, HB2, HO2⟩
  case round =>
    clear HB2 HO2
    obtain ⟨k, _, hk, rfl, hg, HB, HO⟩ := hrel
    cases gk with
    | zero => omega
    | succ g1 =>
    by_cases hlt : k < ws.length
    · have k1 : (k : Int) < (ws.length : Int) := by omega
      have k0 : (0 : Int) ≤ (k : Int) := by omega
      obtain ⟨b, off, rfl, hbb, hcc⟩ := (HS.out.below HB.out) (by intro e; subst e; simp at hlt)
      obtain ⟨x, hx⟩ : ∃ x, x = ws[k] := ⟨_, rfl⟩
      have n1 : wr.cell? ⟨b, off + k, none⟩ = some (.string (btj x)) := hcc k x (by rw [hx]; exact List.getElem?_eq_getElem hlt)
      have HN := Lib.hid (fun W : World => impl_numberOf (btj x) W)
      have HT : Hid (numsV (ws.take (k + 1)) = numsV (ws.take k) ++ [((numV x : Nat) : Int)]) := by
        show _ = _
        rw [List.take_succ_eq_append_getElem hlt, ← hx]; unfold numsV; rw [List.map_append]; rfl
      have HTL : Hid ((numsV (ws.take k)).length ≤ 1000) := by
        show _ ≤ _
        rw [numsV_len, List.length_take]; omega
      have hz1 := HB.out.size
      have HN2 : Hid (∀ W : World, Calls Tryz.prog 135 #[.string (btj x)] W fun e w' => e = .returned (.int .i64 (numV x : Nat)) ∧ W = w') := HN.out
      obtain ⟨z, hz⟩ : ∃ z : Int, z = ((numV x : Nat) : Int) := ⟨_, rfl⟩
      rw [← hz] at HN2 HT
      clear hx hcc HN hz
      go_wp2_with fail
      refine (HN2.out _).mono ?_
      rintro e _ ⟨rfl, rfl⟩
      go_wp2_with (at_builtin; go_loud (refine wpList_push (W := wr) rfl _ _ rfl w.heap.size _ (numsV (ws.take k)) z (by rfl) (by rfl) HO.out hz1 (by have := HTL.out; omega) ?_))
      intro v7 w7 ho7 hg7 hb7
      rw [← HT.out] at ho7
      have HO7 := Lib.hid ho7
      have HB7 := Lib.hid (HB.out.trans hb7)
      clear ho7 hg7 hb7
      go_wp2_with fail
      go_roundg g1
      case measure => omega
      case rel => exact ⟨k + 1, trivial, by omega, by go_num, by omega, HB7, HO7⟩
    · obtain rfl : k = ws.length := by omega
      have hO := HO.out
      rw [List.take_of_length_le (Nat.le_refl _)] at hO
      have HO8 := Lib.hid hO
      clear hO
      go_wp2_with fail
      go_ret
      exact ⟨_, rfl, HO8.out, HB.out⟩
set_option maxHeartbeats 1000000 in
theorem impl_first (td n c : Nat) (A : Option Addr) (xs : List Int) (f : List UInt8) (w : World) (hD : Desk w td xs f) :
    Calls Tryz.prog 104 #[.pointer (some ⟨td, 0, none⟩), .slice A n c] w fun e w' => e = .returned (.tuple #[.string (vfoT xs), .bool (vfo xs).isSome]) ∧ Below w.heap.size w w' := by
  obtain ⟨A', c', hk, hi, hc, hm, _⟩ := hD
  have q0 : w.cell? ⟨td, 0, none⟩ = some (.slice A' xs.length c') := hk.cell 0
  have HV := Lib.hid (impl_VertexFirst A' c' xs w hi (by omega))
  clear hk hi hc hm
  go_enter Tryz.func104, Tryz.ntmps104
  go_wp2_with fail
  refine HV.out.mono ?_
  rintro e w1 ⟨rfl, hb1⟩
  go_wp2_with fail
  go_ret2
  exact ⟨rfl, hb1⟩
/-- what 'test' tells -/
def testT (xs : List Int) (f : List UInt8) : List UInt8 := if f = [] then [] else if vfB xs (btj f) then [102, 111, 108, 100, 115] else [115, 116, 117, 99, 107]
set_option maxHeartbeats 2000000 in
set_option maxRecDepth 100000 in
theorem impl_test (td n c : Nat) (A : Option Addr) (xs : List Int) (f : List UInt8) (w : World) (hD : Desk w td xs f) (hf : f.length ≤ 1000) :
    Calls Tryz.prog 105 #[.pointer (some ⟨td, 0, none⟩), .slice A n c] w fun e w' => e = .returned (.tuple #[.string (btj (testT xs f)), .bool (decide (f ≠ []))]) ∧ Below w.heap.size w w' := by
  obtain ⟨A', c', hk, hi, hc, hm, _⟩ := hD
  have q0 : w.cell? ⟨td, 0, none⟩ = some (.slice A' xs.length c') := hk.cell 0
  have q1 : w.cell? ⟨td, 1, none⟩ = some (.string (btj f)) := hk.cell 1
  have hsz : (btj f).size = f.length := btj_size f
  have HV := Lib.hid (fun W (hb : Below w.heap.size w W) => impl_VertexFolds A' c' xs (btj f) W (hi.below hb) (by omega) (by rw [hsz]; unfold maxLen; omega))
  have hlt := hk.lt
  clear hk hi hc hm hsz
  by_cases he : f = []
  · subst he
    go_enter Tryz.func105, Tryz.ntmps105
    go_wp2_with fail
    go_ret2
    exact ⟨rfl, Below.refl _ _⟩
  · have k2 : f.isEmpty = false := by
      cases f with
      | nil => exact absurd rfl he
      | cons _ _ => rfl
    have HT : Hid (testT xs f = if vfB xs (btj f) then [102, 111, 108, 100, 115] else [115, 116, 117, 99, 107]) := by show _ = _; unfold testT; rw [if_neg he]
    have HE : Hid (decide (f ≠ []) = true) := by show _ = _; simp [he]
    clear he
    go_enter Tryz.func105, Tryz.ntmps105
    go_wp2_with fail
    cases hvv : vfB xs (btj f) with
    | true =>
      rw [hvv] at HV HT
      clear hvv
      go_region_held3 (fun W => W.cell? ⟨td, 0, none⟩ = some (.slice A' xs.length c') ∧ W.cell? ⟨td, 1, none⟩ = some (.string (btj f)))
        (first | exact ⟨q0, q1⟩ | exact ⟨(hbx.cell (p := ⟨td, 0, none⟩) hlt).trans q0, (hbx.cell (p := ⟨td, 1, none⟩) hlt).trans q1⟩)
        ((go_simp; go_at_call 133; refine (HV.out _ (below_drewN (Below.refl _ _) _)).mono ?_; rintro e w6 ⟨rfl, hbx⟩))
      all_goals
        have HB6 := Lib.hid ((below_drewN (Below.refl w.heap.size w) 1).trans hbx)
        clear hbx
        go_wp2_with fail
        go_ret2
        exact ⟨by rw [HT.out, HE.out]; rfl, HB6.out⟩
    | false =>
      rw [hvv] at HV HT
      clear hvv
      go_region_held3 (fun W => W.cell? ⟨td, 0, none⟩ = some (.slice A' xs.length c') ∧ W.cell? ⟨td, 1, none⟩ = some (.string (btj f)))
        (first | exact ⟨q0, q1⟩ | exact ⟨(hbx.cell (p := ⟨td, 0, none⟩) hlt).trans q0, (hbx.cell (p := ⟨td, 1, none⟩) hlt).trans q1⟩)
        ((go_simp; go_at_call 133; refine (HV.out _ (below_drewN (Below.refl _ _) _)).mono ?_; rintro e w6 ⟨rfl, hbx⟩))
      all_goals
        have HB6 := Lib.hid ((below_drewN (Below.refl w.heap.size w) 1).trans hbx)
        clear hbx
        go_wp2_with fail
        go_ret2
        exact ⟨by rw [HT.out, HE.out]; rfl, HB6.out⟩
end Go.Proofs.YtkdlipbegdiaaaaGreatDoor
namespace Go.Proofs.YtkdlipbegdiaaaaGreatDoor
open Go.RowKit
set_option maxHeartbeats 2000000 in
set_option maxRecDepth 100000 in
theorem impl_word (td b : Nat) (arg : List UInt8) (w : World) (hc : w.cell? ⟨b, 1, none⟩ = some (.string (btj arg))) (hl : arg.length ≤ 1000) :
    Calls Tryz.prog 109 #[.pointer (some ⟨td, 0, none⟩), .slice (some ⟨b, 1, none⟩) 1 1] w fun e w' => e = .returned (.tuple #[.string (btj ((wofO arg).getD [])), .bool (wofO arg).isSome]) ∧ Below w.heap.size w w' := by
  have HW := Lib.hid (impl_WordOf (btj arg) w (by show arg.toArray.size ≤ 1000; simpa using hl))
  have HW2 : Hid (Calls Tryz.prog 138 #[.string (btj arg)] w fun e w' => e = .returned (.tuple #[.string (btj ((wofO arg).getD [])), .bool (wofO arg).isSome]) ∧ Below w.heap.size w w') := HW.out
  clear HW
  go_enter Tryz.func109, Tryz.ntmps109
  go_wp2_with fail
  refine HW2.out.mono ?_
  rintro e w1 ⟨rfl, hb1⟩
  have HB1 := Lib.hid hb1
  clear hb1
  go_wp2_with fail
  go_ret2
  exact ⟨rfl, HB1.out⟩
end Go.Proofs.YtkdlipbegdiaaaaGreatDoor
namespace Go.Proofs.YtkdlipbegdiaaaaGreatDoor
open Go.RowKit Go.Extern.Stop Go.Stop Go.Extern
set_option maxRecDepth 100000 in
set_option maxHeartbeats 2000000 in
theorem impl_answerG (td : Nat) (L out : ByteArray) (xs : List Int) (f : List UInt8) (w : World) (htd : td < w.heap.size) (HD : ∀ W : World, Below w.heap.size w W → Calls Tryz.prog 50 #[.pointer (some ⟨td, 0, none⟩), .string L] W fun e w' => e = .returned (.string out) ∧ W.grownBy w' (some td) ∧ Desk w' td xs f) :
    Calls Tryz.prog 26 #[.pointer (some ⟨td, 0, none⟩), .string L] w fun e w' => e = .returned (.string out) ∧ w.grownBy w' (some td) ∧ Desk w' td xs f := by
  have hmf : ∀ (fn : Fn) (first cap : Array Value) (w : World), (Instr.makeFunc fn first cap).run Tryz.prog w = .ok (.func fn first cap) w := fun _ _ _ _ => rfl
  have HDD := Lib.hid HD
  have HTD := Lib.hid htd
  clear HD htd
  go_enter_defers Tryz.func26, Tryz.ntmps26
  go_wp2_with fail
  refine (HDD.out _ ((Below.refl _ _).alloc (Nat.le_refl _) _)).mono ?_
  rintro e w2 ⟨rfl, hg2, hD2⟩
  have hne : some w.heap.size ≠ some td := fun e => by have := Option.some.inj e; have := HTD.out; omega
  have hk := (Blk.new w 9 #[.string ⟨#[]⟩]).grown hg2 hne
  have c0 : w2.cell? ⟨w.heap.size, 0, none⟩ = some (.string ⟨#[]⟩) := hk.cell 0
  have f0 := hk.frozen 0
  have hk3 : Blk (w2.setCell ⟨w.heap.size, 0, none⟩ (.string out)) w.heap.size 9 #[.string out] := by simpa using hk.set_ 0 (.string out)
  have hD3 : Desk (w2.setCell ⟨w.heap.size, 0, none⟩ (.string out)) td xs f := hD2.far (grown_setE w2 w.heap.size 0 (.string out)) fun g e => by
    cases e
    exact ⟨_, 9, _, hk, by decide, by decide⟩
  have hg3 : w.grownBy (w2.setCell ⟨w.heap.size, 0, none⟩ (.string out)) (some td) := by
    refine ⟨hg2.os, hg2.tape, hg2.output, ?_, fun i hi hne2 => ?_⟩
    · have := hg2.size
      simp at this ⊢
      omega
    · have h1 := (grown_setE w2 w.heap.size 0 (.string out)).block i (Nat.lt_of_lt_of_le (Nat.lt_succ_of_lt hi) (by have := hg2.size; simpa using this)) (by intro e; have := Option.some.inj e; omega)
      have h2 := hg2.block i (by simp; omega) hne2
      rw [h1, h2]
      exact Below.heap_alloc w _ i hi
  have HK3 := Lib.hid hk3
  have HD3 := Lib.hid hD3
  have HG3 := Lib.hid hg3
  clear hk3 hD3 hg3 hg2 hD2 hk
  go_wp2_with fail
  refine leaves_cons (f := 49) (args := #[.pointer (some ⟨w.heap.size, 0, none⟩)]) (by simp) (by simp [go_sem]) ?_
  refine (answer_idle ⟨w.heap.size, 0, none⟩ _).mono ?_
  rintro e u' w'' ⟨rfl, rfl, hb⟩
  have c9 : w''.cell? ⟨w.heap.size, 0, none⟩ = some (.string out) := (HK3.out.below hb HK3.out.lt).cell 0
  have hD9 := HD3.out.below hb
  have hg9 : w.grownBy w'' (some td) := by
    have h := HG3.out
    exact ⟨hb.os.trans h.os, hb.tape.trans h.tape, hb.output.trans h.output, Nat.le_trans h.size hb.size, fun i hi hne => (hb.block i (Nat.lt_of_lt_of_le hi h.size)).trans (h.block i hi hne)⟩
  simp [Leaves, settle, results, Tryz.results26, go_sem, c9]
  exact ⟨hg9, hD9⟩
theorem grown_belowK {w w' : World} {td : Nat} (hb : Below w.heap.size w w') : w.grownBy w' (some td) := ⟨hb.os, hb.tape, hb.output, hb.size, fun i hi _ => hb.block i hi⟩
/-- a line of a kind, answered -/
theorem impl_line (td : Nat) (x : List UInt8) (r : List (List UInt8)) (c : Nat) (hc : c < 10) (m : Int) (out res : List UInt8) (ok : Bool) (hres : res = if ok then out else [110, 111]) (xs xs' : List Int) (f f' : List UInt8) (w : World) (hm : w.cell? ⟨0, 0, none⟩ = some (.int .i64 m)) (h0 : 0 < w.heap.size) (hp : Pow w) (hD : Desk w td xs f) (ha : ∀ y ∈ x :: r, (32 : UInt8) ∉ y) (hl : (joinC 32 (x :: r)).length ≤ 300)
    (hk : cmdIs c x r.length = true)
    (HC : ∀ (b o : Nat) (W : World), Pow W → Desk W td xs f → (r ≠ [] → o = 1) → Blk W b 9 (wordsV (x :: r)) → Calls Tryz.prog (cmdFn c) #[.pointer (some ⟨td, 0, none⟩), .slice (some ⟨b, o, none⟩) r.length r.length] W fun e w' => e = .returned (.tuple #[.string (btj out), .bool ok]) ∧ W.grownBy w' (some td) ∧ Desk w' td xs' f') :
    Calls Tryz.prog 26 #[.pointer (some ⟨td, 0, none⟩), .string (btj (joinC 32 (x :: r)))] w fun e w' => e = .returned (.string (btj res)) ∧ w.grownBy w' (some td) ∧ Desk w' td xs' f' := by
  refine impl_answerG td _ (btj res) xs' f' w hD.lt fun W hb => ?_
  have e : btj res = if ok then btj out else ⟨#[110, 111]⟩ := by rw [hres]; cases ok <;> rfl
  rw [e]
  refine impl_do_cmd td x r c hc m (btj out) ok (fun w' => Desk w' td xs' f') W (Nat.lt_of_lt_of_le hD.lt hb.size) ((hb.cell (p := ⟨0, 0, none⟩) h0).trans hm) ha hl hk fun b o V hbV ho hB => ?_
  exact HC b o V ((hp.below hb).below hbV) ((hD.below hb).below hbV) ho hB
end Go.Proofs.YtkdlipbegdiaaaaGreatDoor
namespace Go.Proofs.YtkdlipbegdiaaaaGreatDoor
open Go.RowKit
theorem strs_words {W : World} {b : Nat} {x : List UInt8} {r : List (List UInt8)} (h : Blk W b 9 (wordsV (x :: r))) : Strs W (some ⟨b, 1, none⟩) r := by
  intro _
  refine ⟨b, 1, rfl, h.lt, fun k y hy => ?_⟩
  rw [h.cell (1 + k)]
  exact (wordsV_get (ws := x :: r) (k := 1 + k) (by rw [Nat.add_comm]; exact hy)).trans rfl
theorem own_int_blk {w : World} {B : Nat} {A : Option Addr} {n c : Nat} {L : List Value} (h : w.ownsRow B 3 1 (.slice A n c) n L) : ∀ a, A = some a → ∃ cs z, w.heap[a.block]? = some (.cells cs 3 z) := by
  intro a ha
  rcases h.2 with ⟨e, _⟩ | ⟨g, cap, cur, e, _, hg, _⟩
  · cases e; cases ha
  · cases e; cases ha
    exact ⟨_, _, hg⟩
set_option maxHeartbeats 2000000 in
set_option maxRecDepth 100000 in
theorem impl_setAngles_yes (td c : Nat) (A : Option Addr) (ws : List (List UInt8)) (xs : List Int) (f : List UInt8) (w : World) (hD : Desk w td xs f) (hS : Strs w A ws) (hl : ws.length ≤ 1000) (hv : avB (numsV ws) = true) :
    Calls Tryz.prog 101 #[.pointer (some ⟨td, 0, none⟩), .slice A ws.length c] w fun e w' => e = .returned (.tuple #[.string ⟨#[111, 107]⟩, .bool true]) ∧ w.grownBy w' (some td) ∧ Desk w' td (numsV ws) [] := by
  have HN := Lib.hid (impl_numbersOf A c ws w hS hl)
  have HD := Lib.hid hD
  have htd := hD.lt
  clear hD hS
  go_enter Tryz.func101, Tryz.ntmps101
  go_wp2_with fail
  refine HN.out.mono ?_
  rintro e w1 ⟨v, rfl, ho1, hb1⟩
  obtain ⟨A1, c1, rfl, hi1, hc1, hm1⟩ := Own.form ho1
  have hlen := numsV_len ws
  have HA := Lib.hid (impl_AnglesValid A1 c1 (numsV ws) w1 hi1 (by rw [hlen]; unfold maxLen; omega))
  rw [hv] at HA
  have HD1 := Lib.hid (HD.out.below hb1)
  have HB1 := Lib.hid hb1
  have HO1 := Lib.hid ho1
  have HC1 := Lib.hid (And.intro hc1 hm1)
  obtain ⟨ys, hys⟩ : ∃ ys, ys = numsV ws := ⟨_, rfl⟩
  rw [← hys] at HA HO1 HC1 ⊢
  have HYS := Lib.hid hys
  clear hb1 ho1 hi1 hc1 hm1 HN hlen hys hv
  obtain ⟨A0, c0, hk0, _, _, _, _⟩ := HD1.out
  have q0 : w1.cell? ⟨td, 0, none⟩ = some (.slice A0 xs.length c0) := hk0.cell 0
  have q1 : w1.cell? ⟨td, 1, none⟩ = some (.string (btj f)) := hk0.cell 1
  have f0 := hk0.frozen 0
  have f1 := hk0.frozen 1
  have HK0 := Lib.hid hk0
  clear hk0
  go_wp2_with fail
  refine HA.out.mono ?_
  rintro e _ ⟨rfl, rfl⟩
  go_wp2_with fail
  go_ret2
  have hg1 : w1.grownBy (((w1.setCell ⟨td, 0, none⟩ (.slice A1 ys.length c1)).setCell ⟨td, 1, none⟩ (.string ⟨#[]⟩))) (some td) := (grown_setE w1 td 0 _).trans (grown_setE _ td 1 _)
  have hk2 : Blk ((w1.setCell ⟨td, 0, none⟩ (.slice A1 ys.length c1)).setCell ⟨td, 1, none⟩ (.string ⟨#[]⟩)) td 45 #[.slice A1 ys.length c1, .string (btj [])] := by
    simpa using (HK0.out.set_ 0 (.slice A1 ys.length c1)).set_ 1 (.string ⟨#[]⟩)
  have ho2 := HO1.out.kept hg1 (Or.inr (own_blk_ne HO1.out HK0.out (by decide)))
  rw [← HYS.out]
  refine ⟨rfl, grown_of_belowE HB1.out (Nat.le_refl _) hg1, A1, c1, hk2, Ints.of_own ho2, HC1.out.1, HC1.out.2, own_int_blk ho2⟩
set_option maxHeartbeats 2000000 in
set_option maxRecDepth 100000 in
theorem impl_setAngles_no (td c : Nat) (A : Option Addr) (ws : List (List UInt8)) (xs : List Int) (f : List UInt8) (w : World) (hD : Desk w td xs f) (hS : Strs w A ws) (hl : ws.length ≤ 1000) (hv : avB (numsV ws) = false) :
    Calls Tryz.prog 101 #[.pointer (some ⟨td, 0, none⟩), .slice A ws.length c] w fun e w' => e = .returned (.tuple #[.string ⟨#[]⟩, .bool false]) ∧ Below w.heap.size w w' := by
  have HN := Lib.hid (impl_numbersOf A c ws w hS hl)
  have HD := Lib.hid hD
  have htd := hD.lt
  clear hD hS
  go_enter Tryz.func101, Tryz.ntmps101
  go_wp2_with fail
  refine HN.out.mono ?_
  rintro e w1 ⟨v, rfl, ho1, hb1⟩
  obtain ⟨A1, c1, rfl, hi1, hc1, hm1⟩ := Own.form ho1
  have hlen := numsV_len ws
  have HA := Lib.hid (impl_AnglesValid A1 c1 (numsV ws) w1 hi1 (by rw [hlen]; unfold maxLen; omega))
  rw [hv] at HA
  have HD1 := Lib.hid (HD.out.below hb1)
  have HB1 := Lib.hid hb1
  have HO1 := Lib.hid ho1
  have HC1 := Lib.hid (And.intro hc1 hm1)
  obtain ⟨ys, hys⟩ : ∃ ys, ys = numsV ws := ⟨_, rfl⟩
  rw [← hys] at HA HO1 HC1 ⊢
  have HYS := Lib.hid hys
  clear hb1 ho1 hi1 hc1 hm1 HN hlen hys hv
  go_wp2_with fail
  refine HA.out.mono ?_
  rintro e w2 ⟨he, hw⟩
  rw [he]
  have HB2 : Hid (Below w.heap.size w w2) := by show Below _ _ _; rw [← hw]; exact HB1.out
  clear he hw HA HD1 HB1 HO1 HC1 HYS
  go_wp2_with fail
  go_ret2
  exact ⟨rfl, HB2.out⟩
set_option maxHeartbeats 2000000 in
set_option maxRecDepth 100000 in
theorem impl_setFolds_yes (td b n c : Nat) (x : List UInt8) (xs : List Int) (f : List UInt8) (w : World) (hD : Desk w td xs f) (hc : w.cell? ⟨b, 1, none⟩ = some (.string (btj x))) (hx : x.length ≤ 1000) (hn : 1 ≤ xs.length) (hv : fvB x xs.length = true) :
    Calls Tryz.prog 102 #[.pointer (some ⟨td, 0, none⟩), .slice (some ⟨b, 1, none⟩) (n + 1) c] w fun e w' => e = .returned (.tuple #[.string ⟨#[111, 107]⟩, .bool true]) ∧ w.grownBy w' (some td) ∧ Desk w' td xs x := by
  obtain ⟨A0, c0, hk0, hi0, hc0, hm0, ht0⟩ := hD
  have q0 : w.cell? ⟨td, 0, none⟩ = some (.slice A0 xs.length c0) := hk0.cell 0
  have q1 : w.cell? ⟨td, 1, none⟩ = some (.string (btj f)) := hk0.cell 1
  have f0 := hk0.frozen 0
  have f1 := hk0.frozen 1
  have HFV : Hid (∀ W : World, Calls Tryz.prog 39 #[.string (btj x), .int .i64 xs.length] W fun e w' => e = .returned (.bool (fvB x xs.length)) ∧ W = w') := fun W => impl_FoldsValid (btj x) xs.length W (by rw [btj_size]; unfold maxLen; omega)
  rw [hv] at HFV
  have HK0 := Lib.hid hk0
  have HR0 := Lib.hid (And.intro hi0 (And.intro hc0 (And.intro hm0 ht0)))
  have d1 : ((xs.length : Int) == 0) = false := by rw [beq_eq_false_iff_ne]; omega
  have k1 : (1 : Int) ≤ (n : Int) + 1 := by omega
  clear hk0 hi0 hc0 hm0 ht0 hv hn
  go_enter Tryz.func102, Tryz.ntmps102
  go_wp2_with fail
  go_quiet ((go_at_call 39; exact quietl (HFV.out _)))
  go_wp2_with fail
  go_ret2
  have hgd : w.grownBy (w.drewN nq) (some td) := ⟨rfl, rfl, rfl, Nat.le_refl _, fun _ _ _ => rfl⟩
  have hg1 := hgd.trans (grown_setE (w.drewN nq) td 1 (.string (btj x)))
  have hk2 : Blk ((w.drewN nq).setCell ⟨td, 1, none⟩ (.string (btj x))) td 45 #[.slice A0 xs.length c0, .string (btj x)] := by
    simpa using (HK0.out.drewN nq).set_ 1 (.string (btj x))
  obtain ⟨hi0, hc0, hm0, ht0⟩ := HR0.out
  have hDn : Desk (w.drewN nq) td xs f := ⟨A0, c0, HK0.out.drewN nq, hi0.below (below_drewN (Below.refl _ _) nq), hc0, hm0, ht0⟩
  refine ⟨rfl, hg1, A0, c0, hk2, ?_, hc0, hm0, ?_⟩
  · intro hne
    obtain ⟨b2, off, e, hb, hcell⟩ := hi0 hne
    obtain ⟨cs, z, hh⟩ := ht0 _ e
    have hbt : b2 ≠ td := by
      intro e2
      subst e2
      have := HK0.out
      unfold Blk at this
      rw [show w.heap[(⟨b2, off, none⟩ : Addr).block]? = w.heap[b2]? from rfl, this] at hh
      injection hh with hh
      injection hh with _ h5
      exact absurd h5 (by decide)
    exact ⟨b2, off, e, Nat.lt_of_lt_of_le hb hg1.size, fun j y hj => (hg1.cell_far ⟨b2, off + j, none⟩ hb (fun e2 => hbt (Option.some.inj e2))).trans (hcell j y hj)⟩
  · intro a ha
    obtain ⟨cs, z, hh⟩ := ht0 a ha
    have hbt : a.block ≠ td := by
      intro e2
      have := HK0.out
      unfold Blk at this
      rw [e2, this] at hh
      injection hh with hh
      injection hh with _ h5
      exact absurd h5 (by decide)
    exact ⟨cs, z, (hg1.block a.block (Array.getElem?_eq_some_iff.1 hh).1 (fun e2 => hbt (Option.some.inj e2))).trans hh⟩
set_option maxHeartbeats 2000000 in
set_option maxRecDepth 100000 in
theorem impl_crimp (td b n c : Nat) (x : List UInt8) (xs : List Int) (f : List UInt8) (w : World) (hD : Desk w td xs f) (hf : f.length ≤ 1000) (hb : b < w.heap.size) (hc : w.cell? ⟨b, 1, none⟩ = some (.string (btj x))) :
    Calls Tryz.prog 106 #[.pointer (some ⟨td, 0, none⟩), .slice (some ⟨b, 1, none⟩) (n + 1) c] w fun e w' => e = .returned (.tuple #[.string (vcS xs (btj f) (numV x : Nat)), .bool (vcB xs (btj f) (numV x : Nat))]) ∧ Below w.heap.size w w' := by
  obtain ⟨A0, c0, hk0, hi0, hc0, hm0, _⟩ := hD
  have q0 : w.cell? ⟨td, 0, none⟩ = some (.slice A0 xs.length c0) := hk0.cell 0
  have q1 : w.cell? ⟨td, 1, none⟩ = some (.string (btj f)) := hk0.cell 1
  have hlt := hk0.lt
  have HN : Hid (∀ W : World, Calls Tryz.prog 135 #[.string (btj x)] W fun e w' => e = .returned (.int .i64 (numV x : Nat)) ∧ W = w') := fun W => impl_numberOf (btj x) W
  have HV := Lib.hid (fun W (hb : Below w.heap.size w W) => impl_VertexCrimp A0 c0 xs (btj f) (numV x : Nat) W (hi0.below hb) (by omega) (by rw [btj_size]; unfold maxLen; omega))
  obtain ⟨i, hi⟩ : ∃ i : Int, i = ((numV x : Nat) : Int) := ⟨_, rfl⟩
  rw [← hi] at HN HV ⊢
  clear hk0 hi0 hc0 hm0 hi
  go_enter Tryz.func106, Tryz.ntmps106
  go_wp2_with fail
  go_region_held3 (fun W => W.cell? ⟨td, 0, none⟩ = some (.slice A0 xs.length c0) ∧ W.cell? ⟨td, 1, none⟩ = some (.string (btj f)) ∧ W.cell? ⟨b, 1, none⟩ = some (.string (btj x)))
    (first | exact ⟨q0, q1, hc⟩ | exact ⟨(hbx.cell (p := ⟨td, 0, none⟩) hlt).trans q0, (hbx.cell (p := ⟨td, 1, none⟩) hlt).trans q1, (hbx.cell (p := ⟨b, 1, none⟩) hb).trans hc⟩)
    (first | (go_simp; go_at_call 134; refine (HV.out _ (below_drewN (Below.refl _ _) _)).mono ?_; rintro e w6 ⟨v6, rfl, ho6, hbx⟩) | (go_simp; go_at_call 135; refine (HN.out _).mono ?_; rintro e _ ⟨rfl, rfl⟩))
  all_goals
    have HB6 := Lib.hid ((below_drewN (Below.refl w.heap.size w) 1).trans hbx)
    clear hbx
    go_wp2_with fail
    go_ret2
    exact ⟨rfl, HB6.out⟩
end Go.Proofs.YtkdlipbegdiaaaaGreatDoor
