/- Any line of the desk, answered: the program's. No condition but sizes, and what the table of powers of ten holds. -/
import Derived.Test.YtkdlipbegdiaaaaGreatDoorEzBP42
import Derived.Test.YtkdlipbegdiaaaaGreatDoorEzBP40
namespace Go.Proofs.YtkdlipbegdiaaaaGreatDoor
open Go.RowKit
theorem cmdIs_parts {c m : Nat} {x : List UInt8} (h : cmdIs c x m = true) : cmdName c = x ∧ cmdLeast c ≤ m ∧ m ≤ cmdMost c := by
  unfold cmdIs at h
  simp only [Bool.and_eq_true, beq_iff_eq, decide_eq_true_eq] at h
  exact ⟨h.1.1, h.1.2, h.2⟩
theorem cmdIs_other {c i m : Nat} {x : List UInt8} (hc : c < 10) (hi : i < 10) (h : cmdIs c x m = true) (hne : i ≠ c) : cmdIs i x m = false := by
  cases h2 : cmdIs i x m with
  | false => rfl
  | true =>
    have e1 := (cmdIs_parts h).1
    have e2 := (cmdIs_parts h2).1
    exact absurd (cmdName_inj hi hc (e2.trans e1.symm)) hne
theorem one_of {r : List (List UInt8)} (h : r.length = 1) : ∃ y, r = [y] := by
  match r, h with
  | [y], _ => exact ⟨y, rfl⟩
theorem saidT_if (o : List UInt8) (ok : Bool) : saidT o ok = if ok then o else [110, 111] := rfl
/-- the ways of a line -/
theorem lineW_0 {s : Dk} {x : List UInt8} {r : List (List UInt8)} (h : cmdIs 0 x r.length = true) : lineW s x r = if avB (numsV r) then ((numsV r, []), okT) else (s, noT) := by
  unfold lineW; rw [if_pos h]
theorem lineW_1 {s : Dk} {x : List UInt8} {r : List (List UInt8)} (h : cmdIs 1 x r.length = true) : lineW s x r = if decide (1 ≤ s.1.length) && fvB (r.headD []) s.1.length then ((s.1, r.headD []), okT) else (s, noT) := by
  unfold lineW
  rw [if_neg (by rw [cmdIs_other (i := 0) (by decide) (by decide) h (by decide)]; decide), if_pos h]
theorem lineW_ask {s : Dk} {x : List UInt8} {r : List (List UInt8)} (h0 : cmdIs 0 x r.length = false) (h1 : cmdIs 1 x r.length = false) : lineW s x r = (s, askT s x r) := by
  unfold lineW
  rw [if_neg (by rw [h0]; decide), if_neg (by rw [h1]; decide)]
theorem ifF {α : Type} {b : Bool} (h : b = false) (u v : α) : (if b = true then u else v) = v := by rw [h]; rfl
theorem ifT {α : Type} {b : Bool} (h : b = true) (u v : α) : (if b = true then u else v) = u := by rw [h]; rfl
theorem askT_c {s : Dk} {x : List UInt8} {r : List (List UInt8)} {c : Nat} (hc : c < 10) (h : cmdIs c x r.length = true) :
    (c = 2 → askT s x r = cntTx (vmI s.1)) ∧ (c = 3 → askT s x r = saidT (vfoT s.1).data.toList (vfo s.1).isSome) ∧ (c = 4 → askT s x r = saidT (testT s.1 s.2) (decide (s.2 ≠ []))) ∧
    (c = 5 → askT s x r = saidT (vcS s.1 (btj s.2) (numV (r.headD []) : Nat)).data.toList (vcB s.1 (btj s.2) (numV (r.headD []) : Nat))) ∧ (c = 6 → askT s x r = cntTx (stripI (r.headD []) (r.drop 1))) ∧
    (c = 7 → askT s x r = saidT (colsJ (stkO (r.headD []))) (shB (r.headD []))) ∧ (c = 8 → askT s x r = saidT ((wofO (r.headD [])).getD []) (wofO (r.headD [])).isSome) ∧ (c = 9 → askT s x r = cntTx (stampI (numV (r.headD [])))) := by
  have ho : ∀ i, i < 10 → i ≠ c → cmdIs i x r.length = false := fun i hi hne => cmdIs_other hc hi h hne
  refine ⟨?_, ?_, ?_, ?_, ?_, ?_, ?_, ?_⟩
  all_goals
    intro e
    subst e
    unfold askT
  · exact ifT h _ _
  · rw [ifF (ho 2 (by decide) (by decide))]; exact ifT h _ _
  · rw [ifF (ho 2 (by decide) (by decide)), ifF (ho 3 (by decide) (by decide))]; exact ifT h _ _
  · rw [ifF (ho 2 (by decide) (by decide)), ifF (ho 3 (by decide) (by decide)), ifF (ho 4 (by decide) (by decide))]; exact ifT h _ _
  · rw [ifF (ho 2 (by decide) (by decide)), ifF (ho 3 (by decide) (by decide)), ifF (ho 4 (by decide) (by decide)), ifF (ho 5 (by decide) (by decide))]; exact ifT h _ _
  · rw [ifF (ho 2 (by decide) (by decide)), ifF (ho 3 (by decide) (by decide)), ifF (ho 4 (by decide) (by decide)), ifF (ho 5 (by decide) (by decide)), ifF (ho 6 (by decide) (by decide))]; exact ifT h _ _
  · rw [ifF (ho 2 (by decide) (by decide)), ifF (ho 3 (by decide) (by decide)), ifF (ho 4 (by decide) (by decide)), ifF (ho 5 (by decide) (by decide)), ifF (ho 6 (by decide) (by decide)), ifF (ho 7 (by decide) (by decide))]; exact ifT h _ _
  · rw [ifF (ho 2 (by decide) (by decide)), ifF (ho 3 (by decide) (by decide)), ifF (ho 4 (by decide) (by decide)), ifF (ho 5 (by decide) (by decide)), ifF (ho 6 (by decide) (by decide)), ifF (ho 7 (by decide) (by decide)), ifF (ho 8 (by decide) (by decide))]; exact ifT h _ _
theorem askT_none {s : Dk} {x : List UInt8} {r : List (List UInt8)} (h : ∀ c, c < 10 → cmdIs c x r.length = false) : askT s x r = whatT := by
  unfold askT
  rw [ifF (h 2 (by decide)), ifF (h 3 (by decide)), ifF (h 4 (by decide)), ifF (h 5 (by decide)), ifF (h 6 (by decide)), ifF (h 7 (by decide)), ifF (h 8 (by decide)), ifF (h 9 (by decide))]
set_option maxHeartbeats 2000000 in
set_option maxRecDepth 100000 in
theorem impl_setFolds_no (td b n c : Nat) (x : List UInt8) (xs : List Int) (f : List UInt8) (w : World) (hD : Desk w td xs f) (hc : w.cell? ⟨b, 1, none⟩ = some (.string (btj x))) (hx : x.length ≤ 1000) (hv : (decide (1 ≤ xs.length) && fvB x xs.length) = false) :
    Calls Tryz.prog 102 #[.pointer (some ⟨td, 0, none⟩), .slice (some ⟨b, 1, none⟩) (n + 1) c] w fun e w' => e = .returned (.tuple #[.string (btj []), .bool false]) ∧ Below w.heap.size w w' := by
  obtain ⟨A0, c0, hk0, hi0, hc0, hm0, ht0⟩ := hD
  have q0 : w.cell? ⟨td, 0, none⟩ = some (.slice A0 xs.length c0) := hk0.cell 0
  have HFV : Hid (∀ W : World, Calls Tryz.prog 39 #[.string (btj x), .int .i64 xs.length] W fun e w' => e = .returned (.bool (fvB x xs.length)) ∧ W = w') := fun W => impl_FoldsValid (btj x) xs.length W (by rw [btj_size]; unfold maxLen; omega)
  have k1 : (1 : Int) ≤ (n : Int) + 1 := by omega
  by_cases h1 : 1 ≤ xs.length
  · have hf : fvB x xs.length = false := by rw [decide_eq_true h1, Bool.true_and] at hv; exact hv
    rw [hf] at HFV
    have d1 : ((xs.length : Int) == 0) = false := by rw [beq_eq_false_iff_ne]; omega
    clear hk0 hi0 hc0 hm0 ht0 hv hf h1
    go_enter Tryz.func102, Tryz.ntmps102
    go_wp2_with fail
    go_quiet ((go_at_call 39; exact quietl (HFV.out _)))
    go_wp2_with fail
    go_ret2
    exact ⟨rfl, below_drewN (Below.refl _ _) _⟩
  · have hz : xs.length = 0 := by omega
    rw [hz] at q0
    clear hk0 hi0 hc0 hm0 ht0 hv h1 HFV hz
    go_enter Tryz.func102, Tryz.ntmps102
    go_wp2_with fail
    go_quiet (fail)
    go_wp2_with fail
    go_ret2
    exact ⟨rfl, below_drewN (Below.refl _ _) _⟩
set_option maxHeartbeats 1000000 in
set_option maxRecDepth 100000 in
theorem impl_lineW (td : Nat) (m : Int) (s : Dk) (x : List UInt8) (r : List (List UInt8)) (hs : DkOk s) (w : World) (hm : w.cell? ⟨0, 0, none⟩ = some (.int .i64 m)) (h0 : 0 < w.heap.size) (hp : Pow w) (hD : Desk w td s.1 s.2) (ha : ∀ y ∈ x :: r, (32 : UInt8) ∉ y) (hl : (joinC 32 (x :: r)).length ≤ 300) (hr : r.length ≤ 300) (hy : ∀ y ∈ r, y.length ≤ 300) :
    Calls Tryz.prog 26 #[.pointer (some ⟨td, 0, none⟩), .string (btj (joinC 32 (x :: r)))] w fun e w' => e = .returned (.string (btj (lineW s x r).2)) ∧ w.grownBy w' (some td) ∧ Desk w' td (lineW s x r).1.1 (lineW s x r).1.2 := by
  obtain ⟨hs1, hs2⟩ := hs.len
  have keep : ∀ (W : World) (v : Value), Desk W td s.1 s.2 → ∀ e w', (e = Ending.returned v ∧ Below W.heap.size W w') → (e = Ending.returned v ∧ W.grownBy w' (some td) ∧ Desk w' td s.1 s.2) := fun W v hDW e w' h => ⟨h.1, grown_belowK h.2, hDW.below h.2⟩
  by_cases h : ∃ c, c < 10 ∧ cmdIs c x r.length = true
  · obtain ⟨c, hc, hk⟩ := h
    obtain ⟨_, hle, hmo⟩ := cmdIs_parts hk
    obtain ⟨a2, a3, a4, a5, a6, a7, a8, a9⟩ := askT_c (s := s) hc hk
    have c1 : ∀ i, i < 10 → i ≠ c → cmdIs i x r.length = false := fun i hi hne => cmdIs_other hc hi hk hne
    rcases cmd_ten hc with rfl | rfl | rfl | rfl | rfl | rfl | rfl | rfl | rfl | rfl
    · rw [lineW_0 hk]
      cases hv : avB (numsV r) with
      | true =>
        refine impl_line td x r 0 hc m okT okT true rfl s.1 (numsV r) s.2 [] w hm h0 hp hD ha hl hk fun b o W hpW hDW ho hB => ?_
        obtain rfl : o = 1 := ho (by intro e; rw [e] at hle; exact absurd hle (by decide))
        exact impl_setAngles_yes td r.length (some ⟨b, 1, none⟩) r s.1 s.2 W hDW (strs_words hB) (by omega) hv
      | false =>
        refine impl_line td x r 0 hc m [] noT false rfl s.1 s.1 s.2 s.2 w hm h0 hp hD ha hl hk fun b o W hpW hDW ho hB => ?_
        obtain rfl : o = 1 := ho (by intro e; rw [e] at hle; exact absurd hle (by decide))
        exact (impl_setAngles_no td r.length (some ⟨b, 1, none⟩) r s.1 s.2 W hDW (strs_words hB) (by omega) hv).mono (keep W _ hDW)
    · rw [lineW_1 hk]
      obtain ⟨y, rfl⟩ := one_of (show r.length = 1 from Nat.le_antisymm hmo hle)
      have hyl := hy y (by simp)
      cases hv : (decide (1 ≤ s.1.length) && fvB y s.1.length) with
      | true =>
        have hv2 := hv
        rw [Bool.and_eq_true, decide_eq_true_eq] at hv2
        rw [show ([y] : List (List UInt8)).headD [] = y from rfl, hv]
        refine impl_line td x [y] 1 hc m okT okT true rfl s.1 s.1 s.2 y w hm h0 hp hD ha hl hk fun b o W hpW hDW ho hB => ?_
        obtain rfl : o = 1 := ho (by simp)
        exact impl_setFolds_yes td b 0 1 y s.1 s.2 W hDW ((hB.cell 1).trans (wordsV_get (ws := x :: [y]) (k := 1) rfl)) (by omega) hv2.1 hv2.2
      | false =>
        rw [show ([y] : List (List UInt8)).headD [] = y from rfl, hv]
        refine impl_line td x [y] 1 hc m [] noT false rfl s.1 s.1 s.2 s.2 w hm h0 hp hD ha hl hk fun b o W hpW hDW ho hB => ?_
        obtain rfl : o = 1 := ho (by simp)
        exact (impl_setFolds_no td b 0 1 y s.1 s.2 W hDW ((hB.cell 1).trans (wordsV_get (ws := x :: [y]) (k := 1) rfl)) (by omega) hv).mono (keep W _ hDW)
    · rw [lineW_ask (c1 0 (by decide) (by decide)) (c1 1 (by decide) (by decide)), a2 rfl, cntTx_said]
      refine impl_line td x r 2 hc m (cntO (vmI s.1)) _ _ (saidT_if _ _) s.1 s.1 s.2 s.2 w hm h0 hp hD ha hl hk fun b o W hpW hDW ho hB => ?_
      exact (impl_manyG td r.length r.length (some ⟨b, o, none⟩) s.1 s.2 W hDW hpW).mono (keep W _ hDW)
    · rw [lineW_ask (c1 0 (by decide) (by decide)) (c1 1 (by decide) (by decide)), a3 rfl]
      refine impl_line td x r 3 hc m (vfoT s.1).data.toList _ _ (saidT_if _ _) s.1 s.1 s.2 s.2 w hm h0 hp hD ha hl hk fun b o W hpW hDW ho hB => ?_
      exact (impl_first td r.length r.length (some ⟨b, o, none⟩) s.1 s.2 W hDW).mono (keep W _ hDW)
    · rw [lineW_ask (c1 0 (by decide) (by decide)) (c1 1 (by decide) (by decide)), a4 rfl]
      refine impl_line td x r 4 hc m (testT s.1 s.2) _ _ (saidT_if _ _) s.1 s.1 s.2 s.2 w hm h0 hp hD ha hl hk fun b o W hpW hDW ho hB => ?_
      exact (impl_test td r.length r.length (some ⟨b, o, none⟩) s.1 s.2 W hDW (by omega)).mono (keep W _ hDW)
    · rw [lineW_ask (c1 0 (by decide) (by decide)) (c1 1 (by decide) (by decide)), a5 rfl]
      obtain ⟨y, rfl⟩ := one_of (show r.length = 1 from Nat.le_antisymm hmo hle)
      refine impl_line td x [y] 5 hc m (vcS s.1 (btj s.2) (numV y : Nat)).data.toList _ _ (saidT_if _ _) s.1 s.1 s.2 s.2 w hm h0 hp hD ha hl hk fun b o W hpW hDW ho hB => ?_
      obtain rfl : o = 1 := ho (by simp)
      exact (impl_crimp td b 0 1 y s.1 s.2 W hDW (by omega) hB.lt ((hB.cell 1).trans (wordsV_get (ws := x :: [y]) (k := 1) rfl))).mono (keep W _ hDW)
    · rw [lineW_ask (c1 0 (by decide) (by decide)) (c1 1 (by decide) (by decide)), a6 rfl, cntTx_said]
      cases r with
      | nil => exact absurd hle (by decide)
      | cons y q =>
        have hyl := hy y (by simp)
        have hql : 1 ≤ q.length := by have : 2 ≤ (y :: q).length := hle; simp at this; omega
        have hqr : q.length ≤ 300 := by simp at hr; omega
        refine impl_line td x (y :: q) 6 hc m (cntO (stripI y q)) _ _ (saidT_if _ _) s.1 s.1 s.2 s.2 w hm h0 hp hD ha hl hk fun b o W hpW hDW ho hB => ?_
        obtain rfl : o = 1 := ho (by simp)
        refine (impl_stripG td b y q W hpW ((hB.cell 1).trans (wordsV_get (ws := x :: y :: q) (k := 1) rfl)) ?_ hql (by omega) (by omega)).mono (keep W _ hDW)
        intro _
        refine ⟨b, 2, rfl, hB.lt, fun k z hz => ?_⟩
        rw [hB.cell (2 + k)]
        exact (wordsV_get (ws := x :: y :: q) (k := 2 + k) (by rw [Nat.add_comm]; exact hz)).trans rfl
    · rw [lineW_ask (c1 0 (by decide) (by decide)) (c1 1 (by decide) (by decide)), a7 rfl]
      obtain ⟨y, rfl⟩ := one_of (show r.length = 1 from Nat.le_antisymm hmo hle)
      have hyl := hy y (by simp)
      rw [show ([y] : List (List UInt8)).headD [] = y from rfl]
      cases hv : shB y with
      | true =>
        refine impl_line td x [y] 7 hc m (colsJ (stkO y)) _ true (saidT_if _ _) s.1 s.1 s.2 s.2 w hm h0 hp hD ha hl hk fun b o W hpW hDW ho hB => ?_
        obtain rfl : o = 1 := ho (by simp)
        have := impl_stack td b y W hB.lt ((hB.cell 1).trans (wordsV_get (ws := x :: [y]) (k := 1) rfl)) hv
        rw [← stkO_yes hv] at this
        exact this.mono (keep W _ hDW)
      | false =>
        refine impl_line td x [y] 7 hc m [] _ false rfl s.1 s.1 s.2 s.2 w hm h0 hp hD ha hl hk fun b o W hpW hDW ho hB => ?_
        obtain rfl : o = 1 := ho (by simp)
        exact (impl_stackN td b y W ((hB.cell 1).trans (wordsV_get (ws := x :: [y]) (k := 1) rfl)) (by omega) hv).mono (keep W _ hDW)
    · rw [lineW_ask (c1 0 (by decide) (by decide)) (c1 1 (by decide) (by decide)), a8 rfl]
      obtain ⟨y, rfl⟩ := one_of (show r.length = 1 from Nat.le_antisymm hmo hle)
      have hyl := hy y (by simp)
      refine impl_line td x [y] 8 hc m ((wofO y).getD []) _ _ (saidT_if _ _) s.1 s.1 s.2 s.2 w hm h0 hp hD ha hl hk fun b o W hpW hDW ho hB => ?_
      obtain rfl : o = 1 := ho (by simp)
      exact (impl_word td b y W ((hB.cell 1).trans (wordsV_get (ws := x :: [y]) (k := 1) rfl)) (by omega)).mono (keep W _ hDW)
    · rw [lineW_ask (c1 0 (by decide) (by decide)) (c1 1 (by decide) (by decide)), a9 rfl, cntTx_said]
      obtain ⟨y, rfl⟩ := one_of (show r.length = 1 from Nat.le_antisymm hmo hle)
      refine impl_line td x [y] 9 hc m (cntO (stampI (numV y))) _ _ (saidT_if _ _) s.1 s.1 s.2 s.2 w hm h0 hp hD ha hl hk fun b o W hpW hDW ho hB => ?_
      obtain rfl : o = 1 := ho (by simp)
      exact (impl_stampsG td b 0 1 y W hpW ((hB.cell 1).trans (wordsV_get (ws := x :: [y]) (k := 1) rfl))).mono (keep W _ hDW)
  · have hno : ∀ c, c < 10 → cmdIs c x r.length = false := fun c hc => by
      cases hq : cmdIs c x r.length with
      | false => rfl
      | true => exact absurd ⟨c, hc, hq⟩ h
    rw [lineW_ask (hno 0 (by decide)) (hno 1 (by decide)), askT_none hno]
    exact impl_answer_what td _ s.1 s.2 w hD fun W hb => impl_do_what td x r m W ((hb.cell (p := ⟨0, 0, none⟩) h0).trans hm) ha hl hno
theorem impl_lineL (td : Nat) (m : Int) (s : Dk) (l : List UInt8) (hs : DkOk s) (w : World) (hm : w.cell? ⟨0, 0, none⟩ = some (.int .i64 m)) (h0 : 0 < w.heap.size) (hp : Pow w) (hD : Desk w td s.1 s.2) (hl : l.length ≤ 300) :
    Calls Tryz.prog 26 #[.pointer (some ⟨td, 0, none⟩), .string (btj l)] w fun e w' => e = .returned (.string (btj (lineL s l).2)) ∧ w.grownBy w' (some td) ∧ Desk w' td (lineL s l).1.1 (lineL s l).1.2 := by
  obtain ⟨x, r, e⟩ := cutL_cons 32 l
  have hj := cutL_join 32 l
  have hn := cutL_no 32 l
  have hlen := cutL_len 32 l
  rw [e] at hj hn hlen
  have hml : ∀ y ∈ r, y.length ≤ 300 := fun y hy => Nat.le_trans (cutL_mem_len (c := 32) (t := l) (by rw [e]; simp [hy])) hl
  have := impl_lineW td m s x r hs w hm h0 hp hD hn (by rw [hj]; exact hl) (by simp at hlen; omega) hml
  rw [hj] at this
  unfold lineL
  rw [e]
  exact this
end Go.Proofs.YtkdlipbegdiaaaaGreatDoor
