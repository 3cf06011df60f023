/- The desk in plain words: what a line does, what a script tells. No walk, no condition. The reference's script: text cut at a byte, numbers of words, counts and answers. No condition but sizes. The reference's script: numbers of words. No condition but sizes (written by mkDeskC.py out of XExeI, XExeJ). -/
import Derived.Test.YtkdlipbegdiaaaaGreatDoorEzBP15
import Derived.Test.YtkdlipbegdiaaaaGreatDoorEzBP7
import Derived.Test.YtkdlipbegdiaaaaGreatDoorEzBP22
import Derived.Test.YtkdlipbegdiaaaaGreatDoorEzBP24
import Derived.Test.YtkdlipbegdiaaaaGreatDoorEzBP28
import Derived.Test.YtkdlipbegdiaaaaGreatDoorEzBP35
import Derived.Test.YtkdlipbegdiaaaaGreatDoorEzBP37
import Derived.Test.YtkdlipbegdiaaaaGreatDoorEzBP39
import Derived.Test.YtkdlipbegdiaaaaGreatDoorEzBP5
namespace Go.Proofs.YtkdlipbegdiaaaaGreatDoor
open Go.RowKit
/-- what lies between a byte -/
def cutL (c : UInt8) : List UInt8 → List (List UInt8)
  | [] => [[]]
  | x :: r => if x = c then [] :: cutL c r else ((x :: (cutL c r).headD []) :: (cutL c r).drop 1)
theorem cutL_ne (c : UInt8) (t : List UInt8) : cutL c t ≠ [] := by
  cases t with
  | nil => simp [cutL]
  | cons x r => unfold cutL; split <;> simp
theorem cutL_cons (c : UInt8) (t : List UInt8) : ∃ y q, cutL c t = y :: q := List.exists_cons_of_ne_nil (cutL_ne c t)
theorem cutL_join (c : UInt8) (t : List UInt8) : joinC c (cutL c t) = t := by
  induction t with
  | nil => rfl
  | cons x r ih =>
    obtain ⟨y, q, e⟩ := cutL_cons c r
    unfold cutL
    split
    · next h =>
      rw [e] at ih ⊢
      show [] ++ c :: joinC c (y :: q) = _
      rw [ih, h]; rfl
    · rw [e] at ih ⊢
      show joinC c ((x :: y) :: q) = x :: r
      cases q with
      | nil => show x :: y = x :: r; rw [← ih]; rfl
      | cons z q => show x :: (y ++ c :: joinC c (z :: q)) = x :: r; rw [← ih]; rfl
theorem cutL_no (c : UInt8) (t : List UInt8) : ∀ w ∈ cutL c t, c ∉ w := by
  induction t with
  | nil => intro w hw; simp [cutL] at hw; subst hw; simp
  | cons x r ih =>
    intro w hw
    unfold cutL at hw
    split at hw
    · rcases List.mem_cons.1 hw with rfl | h
      · simp
      · exact ih w h
    · next hx =>
      obtain ⟨y, q, e⟩ := cutL_cons c r
      rw [e] at hw ih
      rcases List.mem_cons.1 hw with rfl | h
      · intro h2
        rcases List.mem_cons.1 h2 with h3 | h3
        · exact hx h3.symm
        · exact ih y (by simp) h3
      · exact ih w (List.mem_cons_of_mem _ h)
theorem cutL_one {c : UInt8} {w : List UInt8} (h : c ∉ w) : cutL c w = [w] := by
  induction w with
  | nil => rfl
  | cons x r ih =>
    have h1 : x ≠ c := fun e => h (by simp [e])
    unfold cutL
    rw [if_neg h1, ih (fun e => h (by simp [e]))]; rfl
theorem cutL_app {c : UInt8} {w : List UInt8} (h : c ∉ w) (t : List UInt8) : cutL c (w ++ c :: t) = w :: cutL c t := by
  induction w with
  | nil => show cutL c (c :: t) = _; rw [cutL, if_pos rfl]
  | cons x r ih =>
    have h1 : x ≠ c := fun e => h (by simp [e])
    show cutL c (x :: (r ++ c :: t)) = _
    conv => lhs; unfold cutL
    rw [if_neg h1, ih (fun e => h (by simp [e]))]; rfl
theorem cut_joinC {c : UInt8} (ws : List (List UInt8)) (h0 : ws ≠ []) (h : ∀ w ∈ ws, c ∉ w) : cutL c (joinC c ws) = ws := by
  induction ws with
  | nil => exact absurd rfl h0
  | cons x r ih =>
    cases r with
    | nil => exact cutL_one (h x (by simp))
    | cons y r =>
      show cutL c (x ++ c :: joinC c (y :: r)) = _
      rw [cutL_app (h x (by simp)), ih (by simp) fun w hw => h w (by simp [hw])]
theorem cutL_len (c : UInt8) (t : List UInt8) : (cutL c t).length ≤ t.length + 1 := by
  induction t with
  | nil => simp [cutL]
  | cons x r ih =>
    unfold cutL
    split
    · simp; omega
    · simp; omega
theorem cutL_mem_len {c : UInt8} {t w : List UInt8} (h : w ∈ cutL c t) : w.length ≤ t.length := by
  induction t generalizing w with
  | nil => simp [cutL] at h; subst h; simp
  | cons x r ih =>
    unfold cutL at h
    split at h
    · rcases List.mem_cons.1 h with rfl | h
      · simp
      · have := ih h; simp; omega
    · obtain ⟨y, q, e⟩ := cutL_cons c r
      rw [e] at h ih
      rcases List.mem_cons.1 h with rfl | h
      · have := ih (w := y) (by simp); simpa using this
      · have := ih (List.mem_cons_of_mem _ h); simp; omega
/-- what the desk holds -/
abbrev Dk := List Int × List UInt8
def noT : List UInt8 := [110, 111]
def okT : List UInt8 := [111, 107]
def whatT : List UInt8 := [119, 104, 97, 116]
def cntTx (n : Int) : List UInt8 := if n < 0 then noT else Lib.decDigits n.toNat
def saidT (o : List UInt8) (ok : Bool) : List UInt8 := if ok then o else noT
def stripF (f : List UInt8) : List UInt8 := if f = [45] then [] else f
def stripI (f : List UInt8) (ws : List (List UInt8)) : Int := if svB (numsV ws) (stripF f) then (smany (numsV ws) (btj (stripF f)) : Nat) else -1
def stampI (n : Nat) : Int := if 1 ≤ n ∧ n ≤ 7 then (stkN n : Nat) else -1
/-- what a line that changes nothing tells -/
def askT (s : Dk) (x : List UInt8) (r : List (List UInt8)) : List UInt8 :=
  if cmdIs 2 x r.length then cntTx (vmI s.1)
  else if cmdIs 3 x r.length then saidT (vfoT s.1).data.toList (vfo s.1).isSome
  else if cmdIs 4 x r.length then saidT (testT s.1 s.2) (decide (s.2 ≠ []))
  else if cmdIs 5 x r.length then saidT (vcS s.1 (btj s.2) (numV (r.headD []) : Nat)).data.toList (vcB s.1 (btj s.2) (numV (r.headD []) : Nat))
  else if cmdIs 6 x r.length then cntTx (stripI (r.headD []) (r.drop 1))
  else if cmdIs 7 x r.length then saidT (colsJ (stkO (r.headD []))) (shB (r.headD []))
  else if cmdIs 8 x r.length then saidT ((wofO (r.headD [])).getD []) (wofO (r.headD [])).isSome
  else if cmdIs 9 x r.length then cntTx (stampI (numV (r.headD [])))
  else whatT
/-- a line: the desk behind it and what it tells -/
def lineW (s : Dk) (x : List UInt8) (r : List (List UInt8)) : Dk × List UInt8 :=
  if cmdIs 0 x r.length then (if avB (numsV r) then ((numsV r, []), okT) else (s, noT))
  else if cmdIs 1 x r.length then (if decide (1 ≤ s.1.length) && fvB (r.headD []) s.1.length then ((s.1, r.headD []), okT) else (s, noT))
  else (s, askT s x r)
def lineL (s : Dk) (l : List UInt8) : Dk × List UInt8 := lineW s ((cutL 32 l).headD []) ((cutL 32 l).drop 1)
/-- the desk behind so many lines -/
def stA (ls : List (List UInt8)) (k : Nat) : Dk := (ls.take k).foldl (fun s l => (lineL s l).1) ([], [])
def outA (ls : List (List UInt8)) (k : Nat) : List UInt8 := (lineL (stA ls k) (ls.getD k [])).2
theorem stA_succ {ls : List (List UInt8)} {k : Nat} {x : List UInt8} (h : ls[k]? = some x) : stA ls (k + 1) = (lineL (stA ls k) x).1 := by
  obtain ⟨hk, e⟩ := List.getElem?_eq_some_iff.1 h
  unfold stA
  rw [List.take_succ_eq_append_getElem hk, List.foldl_append, e]; rfl
theorem outA_at {ls : List (List UInt8)} {k : Nat} {x : List UInt8} (h : ls[k]? = some x) : outA ls k = (lineL (stA ls k) x).2 := by
  unfold outA
  rw [List.getD_eq_getElem?_getD, h]; rfl
/-- what holds of a desk -/
def DkOk (s : Dk) : Prop := (s.1 = [] ∨ avB s.1 = true) ∧ (s.2 = [] ∨ fvB s.2 s.1.length = true)
theorem DkOk.len {s : Dk} (h : DkOk s) : s.1.length ≤ 10 ∧ s.2.length ≤ 10 := by
  have h1 : s.1.length ≤ 10 := by
    rcases h.1 with h | h
    · rw [h]; simp
    · exact (avB_parts h).2.2.1
  refine ⟨h1, ?_⟩
  rcases h.2 with h | h
  · rw [h]; simp
  · have := ((fvB_iff _ _).1 h).1; omega
theorem lineW_ok {s : Dk} (h : DkOk s) (x : List UInt8) (r : List (List UInt8)) : DkOk (lineW s x r).1 := by
  unfold lineW
  split
  · split
    · next hv => exact ⟨Or.inr hv, Or.inl rfl⟩
    · exact h
  · split
    · split
      · next hf =>
        rw [Bool.and_eq_true] at hf
        exact ⟨h.1, Or.inr hf.2⟩
      · exact h
    · exact h
theorem stA_ok (ls : List (List UInt8)) (k : Nat) : DkOk (stA ls k) := by
  have key : ∀ (l : List (List UInt8)) (s : Dk), DkOk s → DkOk (l.foldl (fun s l => (lineL s l).1) s) := by
    intro l
    induction l with
    | nil => intro s h; exact h
    | cons y q ih => intro s h; exact ih _ (lineW_ok h _ _)
  exact key _ _ ⟨Or.inl rfl, Or.inl rfl⟩
theorem dec_len_le {n : Nat} (h : n ≤ 100000) : (Lib.decDigits n).length ≤ 6 :=
  decDigits_step (m := 100000) (by omega) fun h => decDigits_step (m := 10000) (by omega) fun h => decDigits_four h
theorem cntTx_len {n : Int} (h : n ≤ 100000) : (cntTx n).length ≤ 6 := by
  unfold cntTx noT
  split
  · simp
  · exact dec_len_le (by omega)
theorem saidT_len {o : List UInt8} {ok : Bool} {m : Nat} (h : o.length ≤ m) (hm : 2 ≤ m) : (saidT o ok).length ≤ m := by
  unfold saidT noT
  split
  · exact h
  · simpa using hm
theorem vmI_le (xs : List Int) : vmI xs ≤ 1024 := by
  unfold vmI
  split
  · next h =>
    have h1 := cntV_le xs (2 ^ xs.length)
    have h2 := pow_le_1024 (avB_parts h).2.2.1
    omega
  · omega
theorem vfoT_len (xs : List Int) : (vfoT xs).data.toList.length ≤ 10 := by
  unfold vfoT
  cases h : vfo xs with
  | none => exact Nat.zero_le _
  | some k =>
    have := (avB_parts (vfo_some h).1).2.2.1
    show (txtL xs.length k).length ≤ 10
    rw [txtL_len]; exact this
theorem vcS_len (xs : List Int) (s : ByteArray) (i : Int) : (vcS xs s i).data.toList.length ≤ 10 := by
  unfold vcS
  split
  · next h =>
    have hm : i ∈ vcL xs s := by unfold vcB at h; exact of_decide_eq_true h
    have := (avB_parts (vcL_mem hm).1).2.2.1
    unfold vcrF folTo
    simp; omega
  · exact Nat.zero_le _
theorem smany_le {xs : List Int} (h : xs.length ≤ 6) (s : ByteArray) : smany xs s ≤ 46656 := by
  unfold smany
  refine Nat.le_trans (rcount_le _ _ _) ?_
  exact Nat.le_trans (Nat.pow_le_pow_left h _) (Nat.pow_le_pow_right (by omega) h)
theorem stripI_le (f : List UInt8) (ws : List (List UInt8)) : stripI f ws ≤ 46656 := by
  unfold stripI
  split
  · next h =>
    unfold svB at h
    rw [Bool.and_eq_true] at h
    have := smany_le (lvB_parts h.1).2.1 (btj (stripF f))
    omega
  · omega
theorem stampI_le (n : Nat) : stampI n ≤ 462 := by
  unfold stampI
  split
  · have := stkN_le n; omega
  · omega
theorem colsJ_len (l : List UInt8) : (colsJ (stkO l)).length ≤ 96 := by
  unfold colsJ
  have h1 : ∀ x ∈ colTs (stkO l), x.length ≤ 2 := by
    intro x hx
    obtain ⟨q, hq, rfl⟩ := List.mem_map.1 hx
    have hlt : q.2.1 < 100 := by
      cases hv : shB l with
      | true => rw [stkO_yes hv] at hq; exact stackT_cols (shB_parts hv).1 q hq
      | false => rw [stkO_no hv] at hq; cases hq
    exact decDigits_step (m := 10) (by omega) fun h => decDigits_one_le h
  have h2 := join_len (colTs (stkO l)) 2 h1
  have h3 := stkO_len l
  have h4 : (colTs (stkO l)).length = (stkO l).length := by simp [colTs]
  omega
theorem wofO_len (l : List UInt8) : ((wofO l).getD []).length ≤ 63 := by
  unfold wofO
  split
  · next h => exact wof_short h.1
  · simp
theorem testT_len (xs : List Int) (f : List UInt8) : (testT xs f).length ≤ 5 := by
  unfold testT
  split
  · simp
  · split <;> simp
theorem askT_len (s : Dk) (x : List UInt8) (r : List (List UInt8)) : (askT s x r).length ≤ 96 := by
  unfold askT
  split
  · exact Nat.le_trans (cntTx_len (Int.le_trans (vmI_le _) (by omega))) (by omega)
  · split
    · exact saidT_len (Nat.le_trans (vfoT_len _) (by omega)) (by omega)
    · split
      · exact saidT_len (Nat.le_trans (testT_len _ _) (by omega)) (by omega)
      · split
        · exact saidT_len (Nat.le_trans (vcS_len _ _ _) (by omega)) (by omega)
        · split
          · exact Nat.le_trans (cntTx_len (Int.le_trans (stripI_le _ _) (by omega))) (by omega)
          · split
            · exact saidT_len (colsJ_len _) (by omega)
            · split
              · exact saidT_len (Nat.le_trans (wofO_len _) (by omega)) (by omega)
              · split
                · exact Nat.le_trans (cntTx_len (Int.le_trans (stampI_le _) (by omega))) (by omega)
                · unfold whatT; simp
theorem lineW_len (s : Dk) (x : List UInt8) (r : List (List UInt8)) : (lineW s x r).2.length ≤ 96 := by
  unfold lineW
  split
  · split
    · show okT.length ≤ 96; unfold okT; simp
    · show noT.length ≤ 96; unfold noT; simp
  · split
    · split
      · show okT.length ≤ 96; unfold okT; simp
      · show noT.length ≤ 96; unfold noT; simp
    · exact askT_len s x r
theorem outA_len (ls : List (List UInt8)) (k : Nat) : (outA ls k).length ≤ 96 := lineW_len _ _ _
/-- the last line of what a script tells -/
def endT (n : Nat) : List UInt8 := [97, 110, 103, 108, 101, 115, 32] ++ Lib.decDigits n ++ [10]
/-- what a script of whole lines tells -/
def scrT (ls : List (List UInt8)) : List UInt8 := outTo (outA ls) ls.length ++ endT (stA ls ls.length).1.length
def longT : List UInt8 := [116, 111, 111, 32, 108, 111, 110, 103, 10]
/-- what a script tells -/
def exeT (t : List UInt8) : List UInt8 := if 300 < t.length then longT else scrT (cutL 10 t).dropLast
end Go.Proofs.YtkdlipbegdiaaaaGreatDoor
namespace Go.Proofs.YtkdlipbegdiaaaaGreatDoor
open Go.RowKit
/-- what is known when a text is cut up to i, the piece from fr on -/
def CutAt (c : UInt8) (t : List UInt8) (i fr : Nat) (P : List (List UInt8)) : Prop :=
  cutL c t = P ++ ((t.take i).drop fr ++ (cutL c (t.drop i)).headD []) :: (cutL c (t.drop i)).drop 1
theorem CutAt.zero (c : UInt8) (t : List UInt8) : CutAt c t 0 0 [] := by
  obtain ⟨y, q, e⟩ := cutL_cons c t
  unfold CutAt
  simp only [List.drop_zero]
  rw [e]; simp
theorem CutAt.hit {c : UInt8} {t : List UInt8} {i fr : Nat} {P : List (List UInt8)} (h : CutAt c t i fr P) (hi : i < t.length) (hx : t[i] = c) : CutAt c t (i + 1) (i + 1) (P ++ [(t.take i).drop fr]) := by
  unfold CutAt at h ⊢
  obtain ⟨y, q, e⟩ := cutL_cons c (t.drop (i + 1))
  rw [List.drop_eq_getElem_cons hi] at h
  have e2 : cutL c (t[i] :: t.drop (i + 1)) = [] :: cutL c (t.drop (i + 1)) := by rw [cutL, if_pos hx]
  rw [e2] at h
  rw [h, e]
  have : (t.take (i + 1)).drop (i + 1) = [] := List.drop_eq_nil_of_le (by rw [List.length_take]; omega)
  rw [this]; simp
theorem CutAt.miss {c : UInt8} {t : List UInt8} {i fr : Nat} {P : List (List UInt8)} (h : CutAt c t i fr P) (hi : i < t.length) (hf : fr ≤ i) (hx : t[i] ≠ c) : CutAt c t (i + 1) fr P := by
  unfold CutAt at h ⊢
  obtain ⟨y, q, e⟩ := cutL_cons c (t.drop (i + 1))
  rw [List.drop_eq_getElem_cons hi] at h
  have e2 : cutL c (t[i] :: t.drop (i + 1)) = ((t[i] :: (cutL c (t.drop (i + 1))).headD []) :: (cutL c (t.drop (i + 1))).drop 1) := by rw [cutL, if_neg hx]
  rw [e2] at h
  rw [h, List.take_succ_eq_append_getElem hi, List.drop_append_of_le_length (by rw [List.length_take]; omega)]
  simp
theorem CutAt.done {c : UInt8} {t : List UInt8} {fr : Nat} {P : List (List UInt8)} (h : CutAt c t t.length fr P) : cutL c t = P ++ [t.drop fr] := by
  unfold CutAt at h
  rw [List.drop_length, List.take_length] at h
  rw [h]; simp [cutL]
theorem btj_cut (t : List UInt8) (a b : Nat) : (btj t).extract a b = btj ((t.take b).drop a) := by
  apply ByteArray.ext; apply Array.ext'
  rw [ByteArray.data_extract, Array.toList_extract, List.extract_eq_take_drop]
  show (t.drop a).take (b - a) = (t.take b).drop a
  rw [List.drop_take]
theorem cutAt_len {c : UInt8} {t : List UInt8} {i fr : Nat} {P : List (List UInt8)} (h : CutAt c t i fr P) : P.length ≤ t.length := by
  have h1 := cutL_len c t
  unfold CutAt at h
  rw [h, List.length_append, List.length_cons] at h1
  omega
set_option maxHeartbeats 2000000 in
set_option maxRecDepth 100000 in
theorem spec_l7Cut (t : List UInt8) (c : UInt8) (w : World) (hl : t.length ≤ 1000) :
    Calls Tryz.prog 30 #[.string (btj t), .int .u8 (c.toNat : Int)] w fun e w' => ∃ v, e = .returned v ∧ OwnTx w' w.heap.size v (cutL c t) ∧ Below w.heap.size w w' := by
  obtain ⟨S, hS⟩ : ∃ S, S = btj t := ⟨_, rfl⟩
  obtain ⟨N, hN⟩ : ∃ N, N = S.size := ⟨_, rfl⟩
  have hNt : N = t.length := by rw [hN, hS, btj_size]
  have HNT := Lib.hid hNt
  have HSN : Hid (S.size = N) := hN.symm
  have HX : Hid (∀ a b, S.extract a b = btj ((t.take b).drop a)) := fun a b => by rw [hS]; exact btj_cut t a b
  have HG : Hid (∀ (i : Nat) (h1 : i < S.size) (h2 : i < t.length), S[i] = t[i]) := (by
    intro i h1 h2
    subst hS
    rfl : ∀ (i : Nat) (h1 : i < S.size) (h2 : i < t.length), S[i] = t[i])
  have hN1000 : N ≤ 1000 := by omega
  have HO0 : Hid (OwnTx (w.alloc (.cells #[] 9)) w.heap.size (.slice (some ⟨w.heap.size, 0, none⟩) 0 0) []) := ownTx_empty w (Nat.le_refl _)
  have HB0 : Hid (Below w.heap.size w (w.alloc (.cells #[] 9))) := (Below.refl _ _).alloc (Nat.le_refl _) _
  have HC0 := Lib.hid (CutAt.zero c t)
  rw [← hS]
  clear hS hN hNt hl
  go_enter Tryz.func30, Tryz.ntmps30
  go_wp2_with fail
  go_loopg [5, 6, 7] (N + 1) (fun gg s5 s6 s7 wr => ∃ (i fr : Nat) (P : List (List UInt8)), fr ≤ i ∧ i ≤ N ∧ s6 = .int .i64 fr ∧ s7 = .int .i64 i ∧ N - i < gg ∧ Hid (CutAt c t i fr P) ∧ Hid (OwnTx wr w.heap.size s5 P) ∧ Hid (Below w.heap.size w wr))
  case atStart => exact ⟨0, 0, [], Nat.le_refl _, Nat.zero_le _, rfl, rfl, by omega, HC0, HO0, HB0⟩
  case round =>
    clear HO0 HB0 HC0
    obtain ⟨i, fr, P, hfi, hiN, rfl, rfl, hg, HC, HO, HB⟩ := hrel
    cases gk with
    | zero => omega
    | succ gl =>
    have hPl := cutAt_len HC.out
    have hNt := HNT.out
    have iw : IntKind.i64.wrap ((i : Int) + 1) = (i : Int) + 1 := IntWalk.i64_in _ (by omega)
    have hP1000 : P.length ≤ 1000 := by omega
    clear hPl hNt
    by_cases hlt : i < N
    · have i1 : (i : Int) < (S.size : Int) := by rw [HSN.out]; omega
      have i2 : i < S.size := by rw [HSN.out]; exact hlt
      have i0 : (0 : Int) ≤ (i : Int) := by omega
      have i3 : i < t.length := by rw [← HNT.out]; exact hlt
      have hgi := HG.out i i2 i3
      by_cases hx : t[i] = c
      · have e1 : ((S[i].toNat : Int) == (c.toNat : Int)) = true := by rw [beq_iff_eq, hgi, hx]
        have HC2 := Lib.hid (HC.out.hit i3 hx)
        obtain ⟨z, hz⟩ : ∃ z, z = (t.take i).drop fr := ⟨_, rfl⟩
        have hcut : S.extract fr i = btj z := by rw [HX.out, hz]
        rw [← hz] at HC2
        have f1 : (fr : Int) ≤ (i : Int) := by omega
        have f2 : (i : Int) ≤ (S.size : Int) := by omega
        have f0 : (0 : Int) ≤ (fr : Int) := by omega
        have hzr := HB.out.size
        clear hgi hx hz
        go_wp2_with (at_builtin; go_loud (refine wpList_pushTx (W := wr) rfl _ _ rfl w.heap.size _ P z (by rfl) (by rfl) HO.out hzr (by omega) ?_))
        intro v2 w2 ho2 hg2 hb2
        have HO2 := Lib.hid ho2
        have HB2 := Lib.hid (HB.out.trans hb2)
        clear ho2 hg2 hb2
        go_wp2_with fail
        go_roundg gl
        case measure => omega
        case rel => exact ⟨i + 1, i + 1, P ++ [z], Nat.le_refl _, by omega, by go_num, by go_num, by omega, HC2, HO2, HB2⟩
      · have e1 : ((S[i].toNat : Int) == (c.toNat : Int)) = false := by
          rw [beq_eq_false_iff_ne, hgi]
          intro e
          exact hx (UInt8.toNat_inj.1 (by omega))
        have HC2 := Lib.hid (HC.out.miss i3 hfi hx)
        clear hgi hx
        go_wp2_with fail
        go_roundg gl
        case measure => omega
        case rel => exact ⟨i + 1, fr, P, by omega, by omega, by go_num, by go_num, by omega, HC2, HO, HB⟩
    · obtain rfl : i = N := by omega
      have hcd := HC.out
      rw [HNT.out] at hcd
      have HD := Lib.hid hcd.done
      obtain ⟨z, hz⟩ : ∃ z, z = t.drop fr := ⟨_, rfl⟩
      have hcut : S.extract fr S.size = btj z := by rw [HX.out, hz, HSN.out, HNT.out, List.take_length]
      rw [← hz] at HD
      have i1 : ¬ ((i : Int) < (S.size : Int)) := by rw [HSN.out]; omega
      have f1 : (fr : Int) ≤ (S.size : Int) := by rw [HSN.out]; omega
      have f0 : (0 : Int) ≤ (fr : Int) := by omega
      have hzr := HB.out.size
      clear hcd hz
      go_wp2_with (at_builtin; go_loud (refine wpList_pushTx (W := wr) rfl _ _ rfl w.heap.size _ P z (by rfl) (by rfl) HO.out hzr (by omega) ?_))
      intro v2 w2 ho2 hg2 hb2
      rw [← HD.out] at ho2
      have HO2 := Lib.hid ho2
      have HB2 := Lib.hid (HB.out.trans hb2)
      clear ho2 hg2 hb2
      go_wp2_with fail
      go_ret
      exact ⟨_, rfl, HO2.out, HB2.out⟩
set_option maxHeartbeats 400000 in
theorem spec_l7Count (n : Int) (hn : n = -1 ∨ (0 ≤ n ∧ n ≤ 100000)) (w : World) :
    Calls Tryz.prog 82 #[.int .i64 n] w fun e w' => e = .returned (.string (btj (cntTx n ++ [10]))) ∧ Below w.heap.size w w' := by
  rcases hn with rfl | ⟨h0, h1⟩
  · go_enter Tryz.func82, Tryz.ntmps82
    go_wp2_with fail
    go_ret
    exact ⟨rfl, Below.refl _ _⟩
  · obtain ⟨m, rfl⟩ : ∃ m : Nat, n = (m : Int) := ⟨n.toNat, by omega⟩
    have HD := Lib.hid (spec_l6Dec (m + 1) m (by omega) (by omega) w)
    have hdl := dec_len_le (n := m) (by omega)
    have d1 : decide ((m : Int) < 0) = false := by simp
    have HE : Hid (cntTx (m : Int) = Lib.decDigits m) := by show _ = _; unfold cntTx; rw [if_neg (by omega)]; rfl
    obtain ⟨D, hD⟩ : ∃ D, D = Lib.decDigits m := ⟨_, rfl⟩
    rw [← hD] at HD HE hdl
    have a1 : ∀ W, (Op.stringOp .add (btj D) (btj [10])).run Tryz.prog W = .ok (.string (btj (D ++ [10]))) W := fun W => run_addT _ _ _ rfl (by simp; omega) W
    clear hD hdl h0
    go_enter Tryz.func82, Tryz.ntmps82
    go_wp2_with fail
    refine HD.out.mono ?_
    rintro e w1 ⟨rfl, hb1⟩
    have HB1 := Lib.hid hb1
    clear hb1
    go_wp2_with fail
    go_ret
    exact ⟨by rw [HE.out]; rfl, HB1.out⟩
set_option maxHeartbeats 400000 in
theorem spec_l7Said (o : List UInt8) (ok : Bool) (hl : o.length ≤ 100000) (w : World) :
    Calls Tryz.prog 84 #[.string (btj o), .bool ok] w fun e w' => e = .returned (.string (btj (saidT o ok ++ [10]))) ∧ w = w' := by
  cases ok with
  | true =>
    have a1 : ∀ W, (Op.stringOp .add (btj o) (btj [10])).run Tryz.prog W = .ok (.string (btj (o ++ [10]))) W := fun W => run_addT _ _ _ rfl (by simp; omega) W
    clear hl
    go_enter Tryz.func84, Tryz.ntmps84
    go_wp2_with fail
    go_ret
    exact ⟨rfl, rfl⟩
  | false =>
    go_enter Tryz.func84, Tryz.ntmps84
    go_wp2_with fail
    go_ret
    exact ⟨rfl, rfl⟩
end Go.Proofs.YtkdlipbegdiaaaaGreatDoor
namespace Go.Proofs.YtkdlipbegdiaaaaGreatDoor
open Go.RowKit
set_option maxHeartbeats 1000000 in
theorem spec_l7Number (s : ByteArray) (w : World) :
    Calls Tryz.prog 80 #[.string s] w fun e w' => e = .returned (.int .i64 (numV s.data.toList : Nat)) ∧ w = w' := by
  have hsz : s.data.toList.length = s.size := Array.length_toList
  have HI := Lib.hid (fun W : World => spec_l6In (s.size : Int) 1 4 W)
  by_cases g0 : s.size < 1 ∨ 4 < s.size
  · have hb : inB (s.size : Int) 1 4 = false := by
      unfold inB
      rw [Bool.and_eq_false_iff, decide_eq_false_iff_not, decide_eq_false_iff_not]
      omega
    rw [hb] at HI
    have HV : Hid (numV s.data.toList = 0) := by show _ = _; unfold numV; rw [if_pos (by omega)]
    clear hsz g0 hb
    go_enter Tryz.func80, Tryz.ntmps80
    go_wp2_with fail
    refine (HI.out w).mono ?_
    rintro e _ ⟨rfl, rfl⟩
    go_wp2_with fail
    go_ret
    exact ⟨by rw [HV.out]; rfl, rfl⟩
  · have hb : inB (s.size : Int) 1 4 = true := by
      unfold inB
      rw [Bool.and_eq_true, decide_eq_true_eq, decide_eq_true_eq]
      omega
    rw [hb] at HI
    have HV : Hid (numV s.data.toList = (numD s.data.toList 0).getD 0) := by show _ = _; unfold numV; rw [if_neg (by omega)]
    have HSZ := Lib.hid hsz
    have g1 : ¬ s.size < 1 := by omega
    have g2 : ¬ 4 < s.size := by omega
    clear hsz hb g0
    · skip
      go_enter Tryz.func80, Tryz.ntmps80
      go_wp2_with fail
      refine (HI.out w).mono ?_
      rintro e _ ⟨rfl, rfl⟩
      go_wp2_with fail
      go_loopg [3, 4] (s.size + 1) (fun gg s3 s4 wr => ∃ (k a : Nat), k ≤ s.size ∧ s3 = .int .i64 a ∧ s4 = .int .i64 k ∧ s.size - k < gg ∧ Hid (wr = w) ∧ Hid (numD (s.data.toList.drop k) a = numD s.data.toList 0) ∧ Hid (a < 10 ^ k))
      case atStart => exact ⟨0, 0, Nat.zero_le _, rfl, rfl, by omega, rfl, rfl, by show _ < _; decide⟩
      case round =>
        obtain ⟨k, a, hk, rfl, rfl, hg, HW, HD, HA⟩ := hrel
        cases gk with
        | zero => omega
        | succ gl =>
        have ha : a < 10000 := Nat.lt_of_lt_of_le HA.out (Nat.le_trans (Nat.pow_le_pow_right (by omega) (show k ≤ 4 by omega)) (by decide))
        by_cases hlt : k < s.size
        · have k1 : (k : Int) < (s.size : Int) := by omega
          have k0 : (0 : Int) ≤ (k : Int) := by omega
          have hx := byte_drop hlt
          have hdd := HD.out
          rw [hx, numD_cons] at hdd
          obtain ⟨z, hz⟩ : ∃ z, z = s[k].toNat := ⟨_, rfl⟩
          have hz256 : z < 256 := by rw [hz]; exact UInt8.toNat_lt _
          rw [← hz] at hdd
          by_cases m1 : z < 48
          · have e1 : decide ((z : Int) < 48) = true := by simp; omega
            rw [if_pos (Or.inl m1)] at hdd
            have HE : Hid (numV s.data.toList = 0) := by show _ = _; rw [HV.out, ← hdd]; rfl
            rw [hz] at e1
            clear hx hdd m1 hz
            go_wp2_with fail
            go_ret
            exact ⟨by rw [HE.out]; rfl, HW.out.symm⟩
          · by_cases m2 : 57 < z
            · have e1 : decide ((z : Int) < 48) = false := by simp; omega
              have e2 : decide ((57 : Int) < (z : Int)) = true := by simp; omega
              rw [if_pos (Or.inr m2)] at hdd
              have HE : Hid (numV s.data.toList = 0) := by show _ = _; rw [HV.out, ← hdd]; rfl
              rw [hz] at e1 e2
              clear hx hdd m1 m2 hz
              go_wp2_with fail
              go_ret
              exact ⟨by rw [HE.out]; rfl, HW.out.symm⟩
            · have e1 : decide ((z : Int) < 48) = false := by simp; omega
              have e2 : decide ((57 : Int) < (z : Int)) = false := by simp; omega
              rw [if_neg (by omega)] at hdd
              have f1 : IntKind.i64.wrap (10 * (a : Int)) = ((a * 10 : Nat) : Int) := (IntWalk.i64_in _ (by omega)).trans (by omega)
              have f2 : IntKind.u8.wrap ((z : Int) - 48) = ((z - 48 : Nat) : Int) := by
                have : (z : Int) - 48 = ((z - 48 : Nat) : Int) := by omega
                rw [this]
                unfold IntKind.wrap
                have q : (2 : Int) ^ IntKind.u8.bits = 256 := by decide
                have q2 : IntKind.u8.signed = false := rfl
                simp only [q, q2]
                simp; omega
              have f4 : IntKind.i64.wrap ((z - 48 : Nat) : Int) = ((z - 48 : Nat) : Int) := IntWalk.i64_in _ (by omega)
              have f3 : IntKind.i64.wrap (((a * 10 : Nat) : Int) + ((z - 48 : Nat) : Int)) = ((a * 10 + (z - 48) : Nat) : Int) := (IntWalk.i64_in _ (by omega)).trans (by omega)
              have HD2 := Lib.hid hdd
              have HA2 : Hid (a * 10 + (z - 48) < 10 ^ (k + 1)) := by
                show _ < _
                have := HA.out
                rw [Nat.pow_succ]; omega
              obtain ⟨a10, ha10⟩ : ∃ x, x = a * 10 := ⟨_, rfl⟩
              obtain ⟨zd, hzd⟩ : ∃ x, x = z - 48 := ⟨_, rfl⟩
              rw [← ha10] at f1 f3 HD2 HA2
              rw [← hzd] at f2 f3 f4 HD2 HA2
              rw [hz] at e1 e2 f2
              clear hx hdd m1 m2 hz ha10 hzd
              go_wp2_with fail
              go_roundg gl
              case measure => omega
              case rel => exact ⟨k + 1, a10 + zd, by omega, by go_num, by go_num, by omega, HW, HD2, HA2⟩
        · obtain rfl : k = s.size := by omega
          have HE : Hid (numV s.data.toList = a) := by
            show _ = _
            have := HD.out
            rw [List.drop_of_length_le (by rw [HSZ.out]; exact Nat.le_refl _)] at this
            rw [HV.out, ← this]; rfl
          go_wp2_with fail
          go_ret
          exact ⟨by rw [HE.out]; rfl, HW.out.symm⟩
set_option maxHeartbeats 2000000 in
set_option maxRecDepth 100000 in
theorem spec_l7Numbers (A : Option Addr) (c : Nat) (ws : List (List UInt8)) (w : World) (h : Strs w A ws) (hl : ws.length ≤ 1000) :
    Calls Tryz.prog 54 #[.slice A ws.length c] w fun e w' => ∃ v, e = .returned v ∧ Own w' w.heap.size v (numsV ws) ∧ Below w.heap.size w w' := by
  have HO2 : Hid (Own (w.alloc (.cells #[] 3)) w.heap.size (.slice (some ⟨w.heap.size, 0, none⟩) 0 0) (numsV (ws.take 0))) := World.ownsRow_lit w #[] 0 (Nat.le_refl _) (by unfold maxLen; omega) rfl
  have HB2 : Hid (Below w.heap.size w (w.alloc (.cells #[] 3))) := (Below.refl _ _).alloc (Nat.le_refl _) _
  have HS := Lib.hid h
  clear h
  go_enter Tryz.func54, Tryz.ntmps54
  go_wp2_with fail
  go_loopg [3, 4] (ws.length + 1) (fun gg s3 s4 wr => ∃ (k : Nat), k ≤ ws.length ∧ s4 = .int .i64 k ∧ ws.length - k < gg ∧ Hid (Below w.heap.size w wr) ∧ Hid (Own wr w.heap.size s3 (numsV (ws.take k))) )
  case atStart => exact ⟨0, Nat.zero_le _, rfl, by omega, HB2, HO2⟩
  case round =>
    clear HB2 HO2
    obtain ⟨k, hk, rfl, hg, HB, HO⟩ := hrel
    cases gk with
    | zero => omega
    | succ g1 =>
    by_cases hlt : k < ws.length
    · have k1 : (k : Int) < (ws.length : Int) := by omega
      have k0 : (0 : Int) ≤ (k : Int) := by omega
      obtain ⟨b, off, rfl, hbb, hcc⟩ := (HS.out.below HB.out) (by intro e; subst e; simp at hlt)
      obtain ⟨x, hx⟩ : ∃ x, x = ws[k] := ⟨_, rfl⟩
      have n1 : wr.cell? ⟨b, off + k, none⟩ = some (.string (btj x)) := hcc k x (by rw [hx]; exact List.getElem?_eq_getElem hlt)
      have HN := Lib.hid (fun W : World => spec_l7Number (btj x) W)
      have HT : Hid (numsV (ws.take (k + 1)) = numsV (ws.take k) ++ [((numV x : Nat) : Int)]) := by
        show _ = _
        rw [List.take_succ_eq_append_getElem hlt, ← hx]; unfold numsV; rw [List.map_append]; rfl
      have HTL : Hid ((numsV (ws.take k)).length ≤ 1000) := by
        show _ ≤ _
        rw [numsV_len, List.length_take]; omega
      have hz1 := HB.out.size
      have kw : IntKind.i64.wrap ((k : Int) + 1) = (k : Int) + 1 := IntWalk.i64_in _ (by omega)
      have HN2 : Hid (∀ W : World, Calls Tryz.prog 80 #[.string (btj x)] W fun e w' => e = .returned (.int .i64 (numV x : Nat)) ∧ W = w') := HN.out
      obtain ⟨z, hz⟩ : ∃ z : Int, z = ((numV x : Nat) : Int) := ⟨_, rfl⟩
      rw [← hz] at HN2 HT
      clear hx hcc HN hz
      go_wp2_with fail
      refine (HN2.out _).mono ?_
      rintro e _ ⟨rfl, rfl⟩
      go_wp2_with (at_builtin; go_loud (refine wpList_push (W := wr) rfl _ _ rfl w.heap.size _ (numsV (ws.take k)) z (by rfl) (by rfl) HO.out hz1 (by have := HTL.out; omega) ?_))
      intro v7 w7 ho7 hg7 hb7
      rw [← HT.out] at ho7
      have HO7 := Lib.hid ho7
      have HB7 := Lib.hid (HB.out.trans hb7)
      clear ho7 hg7 hb7
      go_wp2_with fail
      go_roundg g1
      case measure => omega
      case rel => exact ⟨k + 1, by omega, by go_num, by omega, HB7, HO7⟩
    · obtain rfl : k = ws.length := by omega
      have hO := HO.out
      rw [List.take_of_length_le (Nat.le_refl _)] at hO
      have HO8 := Lib.hid hO
      clear hO
      go_wp2_with fail
      go_ret
      exact ⟨_, rfl, HO8.out, HB.out⟩
end Go.Proofs.YtkdlipbegdiaaaaGreatDoor
