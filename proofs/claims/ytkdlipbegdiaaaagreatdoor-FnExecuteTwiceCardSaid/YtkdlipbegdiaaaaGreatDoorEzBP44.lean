/- The reference's script: a line that asks (written by mkDeskE.py). No condition but sizes. -/
import Derived.Test.YtkdlipbegdiaaaaGreatDoorEzBP42
import Derived.Test.YtkdlipbegdiaaaaGreatDoorEzBP43
namespace Go.Proofs.YtkdlipbegdiaaaaGreatDoor
open Go.RowKit
/-- the reference's state as a value -/
def DkV (w : World) (A : Option Addr) (c : Nat) (s : Dk) : Prop := Ints w A s.1 ∧ s.1.length ≤ c ∧ c ≤ maxLen
theorem DkV.below {w w' : World} {A : Option Addr} {c : Nat} {s : Dk} (h : DkV w A c s) (hb : Below w.heap.size w w') : DkV w' A c s := ⟨h.1.below hb, h.2⟩
/-- a line's words in memory -/
def WordsR (w : World) (b off : Nat) (ws : List (List UInt8)) : Prop := b < w.heap.size ∧ ∀ k y, ws[k]? = some y → w.cell? ⟨b, off + k, none⟩ = some (.string (btj y))
theorem WordsR.below {w w' : World} {b off : Nat} {ws : List (List UInt8)} (h : WordsR w b off ws) (hb : Below w.heap.size w w') : WordsR w' b off ws :=
  ⟨Nat.lt_of_lt_of_le h.1 hb.size, fun k y hy => (hb.cell (p := ⟨b, off + k, none⟩) h.1).trans (h.2 k y hy)⟩
theorem vmI_cases (xs : List Int) : vmI xs = -1 ∨ (0 ≤ vmI xs ∧ vmI xs ≤ 100000) := by
  have h := vmI_le xs
  by_cases h0 : 0 ≤ vmI xs
  · exact Or.inr ⟨h0, by omega⟩
  · left
    unfold vmI at h0 ⊢
    split at h0
    · omega
    · next hv => rw [if_neg hv]
theorem stampI_cases (n : Nat) : stampI n = -1 ∨ (0 ≤ stampI n ∧ stampI n ≤ 100000) := by
  have h := stampI_le n
  by_cases h0 : 0 ≤ stampI n
  · exact Or.inr ⟨h0, by omega⟩
  · left
    unfold stampI at h0 ⊢
    split at h0
    · omega
    · next hv => rw [if_neg hv]
theorem spec_StampManyI (n : Nat) (w : World) :
    Calls Tryz.prog 91 #[.int .i64 n] w fun e w' => e = .returned (.int .i64 (stampI n)) ∧ Below w.heap.size w w' := by
  unfold stampI
  by_cases h : 1 ≤ n ∧ n ≤ 7
  · rw [if_pos h]; exact spec_StampMany n h.1 h.2 w
  · rw [if_neg h]
    refine (spec_StampMany_no n (by omega) w).mono ?_
    rintro e _ ⟨rfl, rfl⟩
    exact ⟨rfl, Below.refl _ _⟩
set_option maxHeartbeats 4000000 in
set_option maxRecDepth 100000 in
theorem spec_l7Ask_many (A : Option Addr) (c0 b off c : Nat) (s : Dk) (w : World) (hs : DkOk s) (hV : DkV w A c0 s) (hW : WordsR w b off [[109, 97, 110, 121]]) (_hc : [[109, 97, 110, 121]].length ≤ c) (_hcm : c ≤ maxLen) :
    Calls Tryz.prog 56 #[.agg #[.slice A s.1.length c0, .string (btj s.2)], .slice (some ⟨b, off, none⟩) 1 c] w fun e w' => e = .returned (.string (btj (cntTx (vmI s.1) ++ [10]))) ∧ Below w.heap.size w w' := by
  obtain ⟨hs1, hs2⟩ := hs.len
  have hb1 : Below w.heap.size w (w.alloc (.cells #[.slice A s.1.length c0, .string (btj s.2)] 53)) := (Below.refl _ _).alloc (Nat.le_refl _) _
  have hV1 := hV.below hb1
  have hW1 := hW.below hb1
  have hbl := hW1.1
  have HB1 := Lib.hid hb1
  unfold maxLen at _hcm
  have n0 : (w.alloc (.cells #[.slice A s.1.length c0, .string (btj s.2)] 53)).cell? ⟨b, off, none⟩ = some (.string ⟨#[109, 97, 110, 121]⟩) := hW1.2 0 _ rfl
  have HM := Lib.hid (spec_VertexMany A c0 s.1 _ hV1.1 (by unfold maxLen; omega) hV1.2.1 hV1.2.2)
  have HCT := Lib.hid (fun W : World => spec_l7Count (vmI s.1) (vmI_cases s.1) W)
  obtain ⟨z, hz⟩ : ∃ z, z = vmI s.1 := ⟨_, rfl⟩
  rw [← hz] at HM HCT ⊢
  obtain ⟨o, ho⟩ : ∃ o, o = cntTx z ++ [10] := ⟨_, rfl⟩
  rw [← ho] at HCT ⊢
  simp only [List.length_cons, List.length_nil] at _hc
  clear hW1 hz ho hV hW hb1 hs
  obtain ⟨hI1, hk1, hk2⟩ := hV1
  go_enter Tryz.func56, Tryz.ntmps56
  go_wp2_with fail
  refine HM.out.mono ?_
  rintro e w2 ⟨rfl, hb2⟩
  have HB2 := Lib.hid (HB1.out.trans (hb2.mono HB1.out.size))
  clear hb2
  go_wp2_with fail
  refine (HCT.out w2).mono ?_
  rintro e w3 ⟨rfl, hb3⟩
  have HB3 := Lib.hid (HB2.out.trans (hb3.mono HB2.out.size))
  clear hb3
  go_wp2_with fail
  go_ret
  exact ⟨rfl, HB3.out⟩
set_option maxHeartbeats 4000000 in
set_option maxRecDepth 100000 in
theorem spec_l7Ask_first (A : Option Addr) (c0 b off c : Nat) (s : Dk) (w : World) (hs : DkOk s) (hV : DkV w A c0 s) (hW : WordsR w b off [[102, 105, 114, 115, 116]]) (_hc : [[102, 105, 114, 115, 116]].length ≤ c) (_hcm : c ≤ maxLen) :
    Calls Tryz.prog 56 #[.agg #[.slice A s.1.length c0, .string (btj s.2)], .slice (some ⟨b, off, none⟩) 1 c] w fun e w' => e = .returned (.string (btj (saidT (vfoT s.1).data.toList (vfo s.1).isSome ++ [10]))) ∧ Below w.heap.size w w' := by
  obtain ⟨hs1, hs2⟩ := hs.len
  have hb1 : Below w.heap.size w (w.alloc (.cells #[.slice A s.1.length c0, .string (btj s.2)] 53)) := (Below.refl _ _).alloc (Nat.le_refl _) _
  have hV1 := hV.below hb1
  have hW1 := hW.below hb1
  have hbl := hW1.1
  have HB1 := Lib.hid hb1
  unfold maxLen at _hcm
  have n0 : (w.alloc (.cells #[.slice A s.1.length c0, .string (btj s.2)] 53)).cell? ⟨b, off, none⟩ = some (.string ⟨#[102, 105, 114, 115, 116]⟩) := hW1.2 0 _ rfl
  have HM := Lib.hid (spec_VertexFirst A c0 s.1 _ hV1.1 (by unfold maxLen; omega) hV1.2.1 hV1.2.2)
  have HCT := Lib.hid (fun W : World => spec_l7Said (vfoT s.1).data.toList (vfo s.1).isSome (Nat.le_trans (vfoT_len s.1) (by omega)) W)
  obtain ⟨o, ho⟩ : ∃ o, o = saidT (vfoT s.1).data.toList (vfo s.1).isSome ++ [10] := ⟨_, rfl⟩
  rw [← ho] at HCT ⊢
  obtain ⟨ok, hok⟩ : ∃ ok, ok = (vfo s.1).isSome := ⟨_, rfl⟩
  rw [← hok] at HM HCT
  simp only [List.length_cons, List.length_nil] at _hc
  have HCT2 : Hid (∀ W : World, Calls Tryz.prog 84 #[.string (vfoT s.1), .bool ok] W fun e w' => e = .returned (.string (btj o)) ∧ W = w') := HCT.out
  obtain ⟨z, hz⟩ : ∃ z, z = vfoT s.1 := ⟨_, rfl⟩
  rw [← hz] at HM HCT2
  clear hW1 hz ho hok hV hW hb1 hs HCT
  obtain ⟨hI1, hk1, hk2⟩ := hV1
  go_enter Tryz.func56, Tryz.ntmps56
  go_wp2_with fail
  refine HM.out.mono ?_
  rintro e w2 ⟨rfl, hb2⟩
  have HB2 := Lib.hid (HB1.out.trans (hb2.mono HB1.out.size))
  clear hb2
  go_wp2_with fail
  refine (HCT2.out w2).mono ?_
  rintro e _ ⟨rfl, rfl⟩
  go_wp2_with fail
  go_ret
  exact ⟨rfl, HB2.out⟩
set_option maxHeartbeats 4000000 in
set_option maxRecDepth 100000 in
theorem spec_l7Ask_test (A : Option Addr) (c0 b off c : Nat) (s : Dk) (w : World) (hs : DkOk s) (hV : DkV w A c0 s) (hW : WordsR w b off [[116, 101, 115, 116]]) (_hc : [[116, 101, 115, 116]].length ≤ c) (_hcm : c ≤ maxLen) :
    Calls Tryz.prog 56 #[.agg #[.slice A s.1.length c0, .string (btj s.2)], .slice (some ⟨b, off, none⟩) 1 c] w fun e w' => e = .returned (.string (btj (saidT (testT s.1 s.2) (decide (s.2 ≠ [])) ++ [10]))) ∧ Below w.heap.size w w' := by
  obtain ⟨hs1, hs2⟩ := hs.len
  have hb1 : Below w.heap.size w (w.alloc (.cells #[.slice A s.1.length c0, .string (btj s.2)] 53)) := (Below.refl _ _).alloc (Nat.le_refl _) _
  have hV1 := hV.below hb1
  have hW1 := hW.below hb1
  have hbl := hW1.1
  have HB1 := Lib.hid hb1
  unfold maxLen at _hcm
  have n0 : (w.alloc (.cells #[.slice A s.1.length c0, .string (btj s.2)] 53)).cell? ⟨b, off, none⟩ = some (.string ⟨#[116, 101, 115, 116]⟩) := hW1.2 0 _ rfl
  have HM := Lib.hid (spec_l7Test A c0 s.1 s.2 _ hV1.1 hV1.2.1 hV1.2.2 (by omega))
  obtain ⟨o, ho⟩ : ∃ o, o = saidT (testT s.1 s.2) (decide (s.2 ≠ [])) ++ [10] := ⟨_, rfl⟩
  rw [← ho] at HM ⊢
  simp only [List.length_cons, List.length_nil] at _hc
  clear hW1 ho hV hW hb1 hs
  obtain ⟨hI1, hk1, hk2⟩ := hV1
  go_enter Tryz.func56, Tryz.ntmps56
  go_wp2_with fail
  refine HM.out.mono ?_
  rintro e w2 ⟨rfl, hb2⟩
  have HB2 := Lib.hid (HB1.out.trans (hb2.mono HB1.out.size))
  clear hb2
  go_wp2_with fail
  go_ret
  exact ⟨rfl, HB2.out⟩
set_option maxHeartbeats 4000000 in
set_option maxRecDepth 100000 in
theorem spec_l7Ask_crimp (A : Option Addr) (c0 b off c : Nat) (s : Dk) (y : List UInt8) (w : World) (hs : DkOk s) (hV : DkV w A c0 s) (hW : WordsR w b off [[99, 114, 105, 109, 112], y]) (_hc : [[99, 114, 105, 109, 112], y].length ≤ c) (_hcm : c ≤ maxLen) :
    Calls Tryz.prog 56 #[.agg #[.slice A s.1.length c0, .string (btj s.2)], .slice (some ⟨b, off, none⟩) 2 c] w fun e w' => e = .returned (.string (btj (saidT (vcS s.1 (btj s.2) (numV y : Nat)).data.toList (vcB s.1 (btj s.2) (numV y : Nat)) ++ [10]))) ∧ Below w.heap.size w w' := by
  obtain ⟨hs1, hs2⟩ := hs.len
  have hb1 : Below w.heap.size w (w.alloc (.cells #[.slice A s.1.length c0, .string (btj s.2)] 53)) := (Below.refl _ _).alloc (Nat.le_refl _) _
  have hV1 := hV.below hb1
  have hW1 := hW.below hb1
  have hbl := hW1.1
  have HB1 := Lib.hid hb1
  unfold maxLen at _hcm
  have n0 : (w.alloc (.cells #[.slice A s.1.length c0, .string (btj s.2)] 53)).cell? ⟨b, off, none⟩ = some (.string ⟨#[99, 114, 105, 109, 112]⟩) := hW1.2 0 _ rfl
  have n1 : (w.alloc (.cells #[.slice A s.1.length c0, .string (btj s.2)] 53)).cell? ⟨b, off + 1, none⟩ = some (.string (btj y)) := hW1.2 1 _ rfl
  have HN : Hid (∀ W : World, Calls Tryz.prog 80 #[.string (btj y)] W fun e w' => e = .returned (.int .i64 (numV y : Nat)) ∧ W = w') := fun W => spec_l7Number (btj y) W
  have HM := Lib.hid (fun (W : World) (hb : Below (w.heap.size + 1) (w.alloc (.cells #[.slice A s.1.length c0, .string (btj s.2)] 53)) W) => spec_VertexCrimp A c0 s.1 (btj s.2) (numV y : Nat) W (hV1.1.below (by simpa using hb)) (by unfold maxLen; omega) (by rw [btj_size]; unfold maxLen; omega) hV1.2.1 hV1.2.2)
  have HCT := Lib.hid (fun W : World => spec_l7Said (vcS s.1 (btj s.2) (numV y : Nat)).data.toList (vcB s.1 (btj s.2) (numV y : Nat)) (Nat.le_trans (vcS_len _ _ _) (by omega)) W)
  obtain ⟨i, hi⟩ : ∃ i : Int, i = ((numV y : Nat) : Int) := ⟨_, rfl⟩
  rw [← hi] at HN HM HCT ⊢
  obtain ⟨o, ho⟩ : ∃ o, o = saidT (vcS s.1 (btj s.2) i).data.toList (vcB s.1 (btj s.2) i) ++ [10] := ⟨_, rfl⟩
  rw [← ho] at HCT ⊢
  obtain ⟨ok, hok⟩ : ∃ ok, ok = vcB s.1 (btj s.2) i := ⟨_, rfl⟩
  rw [← hok] at HM HCT
  have HCT2 : Hid (∀ W : World, Calls Tryz.prog 84 #[.string (vcS s.1 (btj s.2) i), .bool ok] W fun e w' => e = .returned (.string (btj o)) ∧ W = w') := HCT.out
  obtain ⟨z, hz⟩ : ∃ z, z = vcS s.1 (btj s.2) i := ⟨_, rfl⟩
  rw [← hz] at HM HCT2
  simp only [List.length_cons, List.length_nil] at _hc
  have hlt : w.heap.size < (w.alloc (.cells #[.slice A s.1.length c0, .string (btj s.2)] 53)).heap.size := by simp
  have q0 : (w.alloc (.cells #[.slice A s.1.length c0, .string (btj s.2)] 53)).cell? ⟨w.heap.size, 0, none⟩ = some (.slice A s.1.length c0) := (Blk.new w 53 #[.slice A s.1.length c0, .string (btj s.2)]).cell 0
  have q1 : (w.alloc (.cells #[.slice A s.1.length c0, .string (btj s.2)] 53)).cell? ⟨w.heap.size, 1, none⟩ = some (.string (btj s.2)) := (Blk.new w 53 #[.slice A s.1.length c0, .string (btj s.2)]).cell 1
  clear hW1 hz ho hok hi hV hW hb1 hs HCT
  obtain ⟨hI1, hk1, hk2⟩ := hV1
  go_enter Tryz.func56, Tryz.ntmps56
  go_upto_region 2 with (fail)
  obtain ⟨Wa, hWa⟩ : ∃ Wa, Wa = w.alloc (.cells #[.slice A s.1.length c0, .string (btj s.2)] 53) := ⟨_, rfl⟩
  have hza : Wa.heap.size = w.heap.size + 1 := by rw [hWa]; simp
  rw [← hWa] at n0 n1 q0 q1 hbl hlt HB1 HM hI1 ⊢
  rw [← hza] at HM
  obtain ⟨t0, ht0⟩ : ∃ t0, t0 = w.heap.size := ⟨_, rfl⟩
  rw [← ht0] at q0 q1 hlt ⊢
  have HT0 : Hid (t0 = w.heap.size) := ht0
  clear hWa hza ht0
  go_wp2_with fail
  go_region_held3 (fun W => W.cell? ⟨t0, 0, none⟩ = some (.slice A s.1.length c0) ∧ W.cell? ⟨t0, 1, none⟩ = some (.string (btj s.2)) ∧ W.cell? ⟨b, off + 1, none⟩ = some (.string (btj y)))
    (first | exact ⟨q0, q1, n1⟩ | exact ⟨(hbx.cell (p := ⟨t0, 0, none⟩) hlt).trans q0, (hbx.cell (p := ⟨t0, 1, none⟩) hlt).trans q1, (hbx.cell (p := ⟨b, off + 1, none⟩) hbl).trans n1⟩)
    (first | (go_simp; go_at_call 87; refine (HM.out _ (below_drewN (Below.refl _ _) _)).mono ?_; rintro e w6 ⟨v6, rfl, ho6, hbx⟩) | (go_simp; go_at_call 80; refine (HN.out _).mono ?_; rintro e _ ⟨rfl, rfl⟩))
  all_goals
    have HB6 := Lib.hid (HB1.out.trans (((below_drewN (Below.refl Wa.heap.size Wa) 1).trans hbx).mono HB1.out.size))
    clear hbx
    go_wp2_with fail
    refine (HCT2.out _).mono ?_
    rintro e _ ⟨rfl, rfl⟩
    go_wp2_with fail
    go_ret
    exact ⟨rfl, HB6.out⟩
set_option maxHeartbeats 4000000 in
set_option maxRecDepth 100000 in
theorem spec_l7Ask_strip (A : Option Addr) (c0 b off c : Nat) (s : Dk) (y : List UInt8) (q : List (List UInt8)) (w : World) (hs : DkOk s) (hV : DkV w A c0 s) (hW : WordsR w b off ([115, 116, 114, 105, 112] :: y :: q)) (hc : ([115, 116, 114, 105, 112] :: y :: q).length ≤ c) (hcm : c ≤ maxLen) (h1 : 1 ≤ q.length) (hq : q.length ≤ 1000) (hy : y.length ≤ 1000) :
    Calls Tryz.prog 56 #[.agg #[.slice A s.1.length c0, .string (btj s.2)], .slice (some ⟨b, off, none⟩) (q.length + 2) c] w fun e w' => e = .returned (.string (btj (cntTx (stripI y q) ++ [10]))) ∧ Below w.heap.size w w' := by
  obtain ⟨hs1, hs2⟩ := hs.len
  have hb1 : Below w.heap.size w (w.alloc (.cells #[.slice A s.1.length c0, .string (btj s.2)] 53)) := (Below.refl _ _).alloc (Nat.le_refl _) _
  have hV1 := hV.below hb1
  have hW1 := hW.below hb1
  have hbl := hW1.1
  have HB1 := Lib.hid hb1
  unfold maxLen at hcm
  have n0 : (w.alloc (.cells #[.slice A s.1.length c0, .string (btj s.2)] 53)).cell? ⟨b, off, none⟩ = some (.string ⟨#[115, 116, 114, 105, 112]⟩) := hW1.2 0 _ rfl
  have n1 : (w.alloc (.cells #[.slice A s.1.length c0, .string (btj s.2)] 53)).cell? ⟨b, off + 1, none⟩ = some (.string (btj y)) := hW1.2 1 _ rfl
  have hSt : ∀ W : World, Below (w.heap.size + 1) (w.alloc (.cells #[.slice A s.1.length c0, .string (btj s.2)] 53)) W → Strs W (some ⟨b, off + 2, none⟩) q := fun W hb _ => ⟨b, off + 2, rfl, Nat.lt_of_lt_of_le hbl (by have := hb.size; simpa using this), fun k x hx => by
    have := hW1.2 (k + 2) x (by simpa using hx)
    rw [show off + (k + 2) = off + 2 + k from by omega] at this
    exact (hb.cell (p := ⟨b, off + 2 + k, none⟩) (by simpa using hbl)).trans this⟩
  have HM := Lib.hid (fun (W : World) (hb : Below (w.heap.size + 1) (w.alloc (.cells #[.slice A s.1.length c0, .string (btj s.2)] 53)) W) => spec_l7Strip (some ⟨b, off + 2, none⟩) (c - 2) y q W (hSt W hb) hq hy)
  obtain ⟨o, ho⟩ : ∃ o, o = cntTx (stripI y q) ++ [10] := ⟨_, rfl⟩
  rw [← ho] at HM ⊢
  simp only [List.length_cons] at hc
  have k1 : ((q.length : Int) + 2 == 1) = false := by rw [beq_eq_false_iff_ne]; omega
  have k2 : ((q.length : Int) + 2 == 2) = false := by rw [beq_eq_false_iff_ne]; omega
  have k3 : decide ((3 : Int) ≤ (q.length : Int) + 2) = true := by rw [decide_eq_true_eq]; omega
  have k3' : (3 : Int) ≤ (q.length : Int) + 2 := by omega
  have k4 : (2 : Int) ≤ (q.length : Int) + 2 := by omega
  have k5 : (1 : Int) < (q.length : Int) + 2 := by omega
  have k6 : (0 : Int) < (q.length : Int) + 2 := by omega
  have k7 : ¬ (c = 2) := by omega
  have k8 : 2 ≤ c := by omega
  clear hW1 ho hV hW hb1 hs hSt
  obtain ⟨hI1, hk1, hk2⟩ := hV1
  go_enter Tryz.func56, Tryz.ntmps56
  go_upto_region 2 with (fail)
  obtain ⟨Wa, hWa⟩ : ∃ Wa, Wa = w.alloc (.cells #[.slice A s.1.length c0, .string (btj s.2)] 53) := ⟨_, rfl⟩
  have hza : Wa.heap.size = w.heap.size + 1 := by rw [hWa]; simp
  rw [← hWa] at n0 n1 hbl HB1 HM hI1 ⊢
  rw [← hza] at HM
  obtain ⟨t0, ht0⟩ : ∃ t0, t0 = w.heap.size := ⟨_, rfl⟩
  rw [← ht0]
  clear hWa hza ht0
  go_wp2_with fail
  go_region_held3 (fun W => W.cell? ⟨b, off + 1, none⟩ = some (.string (btj y)))
    (first | exact n1 | exact (hbx.cell (p := ⟨b, off + 1, none⟩) hbl).trans n1)
    ((go_simp; go_at_call 88; refine (HM.out _ (below_drewN (Below.refl _ _) _)).mono ?_; rintro e w6 ⟨rfl, hbx⟩))
  all_goals
    have HB6 := Lib.hid (HB1.out.trans (((below_drewN (Below.refl Wa.heap.size Wa) 1).trans hbx).mono HB1.out.size))
    clear hbx
    go_wp2_with fail
    go_ret
    exact ⟨rfl, HB6.out⟩
set_option maxHeartbeats 4000000 in
set_option maxRecDepth 100000 in
theorem spec_l7Ask_stack (A : Option Addr) (c0 b off c : Nat) (s : Dk) (y : List UInt8) (w : World) (hs : DkOk s) (hV : DkV w A c0 s) (hW : WordsR w b off [[115, 116, 97, 99, 107], y]) (_hc : [[115, 116, 97, 99, 107], y].length ≤ c) (_hcm : c ≤ maxLen) (hy : y.length ≤ 1000) :
    Calls Tryz.prog 56 #[.agg #[.slice A s.1.length c0, .string (btj s.2)], .slice (some ⟨b, off, none⟩) 2 c] w fun e w' => e = .returned (.string (btj (saidT (colsJ (stkO y)) (shB y) ++ [10]))) ∧ Below w.heap.size w w' := by
  obtain ⟨hs1, hs2⟩ := hs.len
  have hb1 : Below w.heap.size w (w.alloc (.cells #[.slice A s.1.length c0, .string (btj s.2)] 53)) := (Below.refl _ _).alloc (Nat.le_refl _) _
  have hV1 := hV.below hb1
  have hW1 := hW.below hb1
  have hbl := hW1.1
  have HB1 := Lib.hid hb1
  unfold maxLen at _hcm
  have n0 : (w.alloc (.cells #[.slice A s.1.length c0, .string (btj s.2)] 53)).cell? ⟨b, off, none⟩ = some (.string ⟨#[115, 116, 97, 99, 107]⟩) := hW1.2 0 _ rfl
  have n1 : (w.alloc (.cells #[.slice A s.1.length c0, .string (btj s.2)] 53)).cell? ⟨b, off + 1, none⟩ = some (.string (btj y)) := hW1.2 1 _ rfl
  have HM := Lib.hid (fun W : World => spec_l7Stack y W hy)
  obtain ⟨o, ho⟩ : ∃ o, o = saidT (colsJ (stkO y)) (shB y) ++ [10] := ⟨_, rfl⟩
  rw [← ho] at HM ⊢
  simp only [List.length_cons, List.length_nil] at _hc
  clear hW1 ho hV hW hb1 hs
  obtain ⟨hI1, hk1, hk2⟩ := hV1
  go_enter Tryz.func56, Tryz.ntmps56
  go_wp2_with fail
  refine (HM.out _).mono ?_
  rintro e w2 ⟨rfl, hb2⟩
  have HB2 := Lib.hid (HB1.out.trans (hb2.mono HB1.out.size))
  clear hb2
  go_wp2_with fail
  go_ret
  exact ⟨rfl, HB2.out⟩
set_option maxHeartbeats 4000000 in
set_option maxRecDepth 100000 in
theorem spec_l7Ask_word (A : Option Addr) (c0 b off c : Nat) (s : Dk) (y : List UInt8) (w : World) (hs : DkOk s) (hV : DkV w A c0 s) (hW : WordsR w b off [[119, 111, 114, 100], y]) (_hc : [[119, 111, 114, 100], y].length ≤ c) (_hcm : c ≤ maxLen) (hy : y.length ≤ 1000) :
    Calls Tryz.prog 56 #[.agg #[.slice A s.1.length c0, .string (btj s.2)], .slice (some ⟨b, off, none⟩) 2 c] w fun e w' => e = .returned (.string (btj (saidT ((wofO y).getD []) (wofO y).isSome ++ [10]))) ∧ Below w.heap.size w w' := by
  obtain ⟨hs1, hs2⟩ := hs.len
  have hb1 : Below w.heap.size w (w.alloc (.cells #[.slice A s.1.length c0, .string (btj s.2)] 53)) := (Below.refl _ _).alloc (Nat.le_refl _) _
  have hV1 := hV.below hb1
  have hW1 := hW.below hb1
  have hbl := hW1.1
  have HB1 := Lib.hid hb1
  unfold maxLen at _hcm
  have n0 : (w.alloc (.cells #[.slice A s.1.length c0, .string (btj s.2)] 53)).cell? ⟨b, off, none⟩ = some (.string ⟨#[119, 111, 114, 100]⟩) := hW1.2 0 _ rfl
  have n1 : (w.alloc (.cells #[.slice A s.1.length c0, .string (btj s.2)] 53)).cell? ⟨b, off + 1, none⟩ = some (.string (btj y)) := hW1.2 1 _ rfl
  have HM : Hid (∀ W : World, Calls Tryz.prog 90 #[.string (btj y)] W fun e w' => e = .returned (.tuple #[.string (btj ((wofO y).getD [])), .bool (wofO y).isSome]) ∧ W = w') := fun W => spec_WordOf (btj y) W (by rw [btj_size]; exact hy)
  have HCT := Lib.hid (fun W : World => spec_l7Said ((wofO y).getD []) (wofO y).isSome (Nat.le_trans (wofO_len y) (by omega)) W)
  obtain ⟨o, ho⟩ : ∃ o, o = saidT ((wofO y).getD []) (wofO y).isSome ++ [10] := ⟨_, rfl⟩
  rw [← ho] at HCT ⊢
  obtain ⟨ok, hok⟩ : ∃ ok, ok = (wofO y).isSome := ⟨_, rfl⟩
  obtain ⟨z, hz⟩ : ∃ z, z = (wofO y).getD [] := ⟨_, rfl⟩
  rw [← hok, ← hz] at HM HCT
  simp only [List.length_cons, List.length_nil] at _hc
  clear hW1 ho hok hz hV hW hb1 hs
  obtain ⟨hI1, hk1, hk2⟩ := hV1
  go_enter Tryz.func56, Tryz.ntmps56
  go_wp2_with fail
  refine (HM.out _).mono ?_
  rintro e _ ⟨rfl, rfl⟩
  go_wp2_with fail
  refine (HCT.out _).mono ?_
  rintro e _ ⟨rfl, rfl⟩
  go_wp2_with fail
  go_ret
  exact ⟨rfl, HB1.out⟩
set_option maxHeartbeats 4000000 in
set_option maxRecDepth 100000 in
theorem spec_l7Ask_stamps (A : Option Addr) (c0 b off c : Nat) (s : Dk) (y : List UInt8) (w : World) (hs : DkOk s) (hV : DkV w A c0 s) (hW : WordsR w b off [[115, 116, 97, 109, 112, 115], y]) (hc : [[115, 116, 97, 109, 112, 115], y].length ≤ c) (hcm : c ≤ maxLen) :
    Calls Tryz.prog 56 #[.agg #[.slice A s.1.length c0, .string (btj s.2)], .slice (some ⟨b, off, none⟩) 2 c] w fun e w' => e = .returned (.string (btj (cntTx (stampI (numV y)) ++ [10]))) ∧ Below w.heap.size w w' := by
  obtain ⟨hs1, hs2⟩ := hs.len
  have hb1 : Below w.heap.size w (w.alloc (.cells #[.slice A s.1.length c0, .string (btj s.2)] 53)) := (Below.refl _ _).alloc (Nat.le_refl _) _
  have hV1 := hV.below hb1
  have hW1 := hW.below hb1
  have hbl := hW1.1
  have HB1 := Lib.hid hb1
  unfold maxLen at hcm
  have n0 : (w.alloc (.cells #[.slice A s.1.length c0, .string (btj s.2)] 53)).cell? ⟨b, off, none⟩ = some (.string ⟨#[115, 116, 97, 109, 112, 115]⟩) := hW1.2 0 _ rfl
  have n1 : (w.alloc (.cells #[.slice A s.1.length c0, .string (btj s.2)] 53)).cell? ⟨b, off + 1, none⟩ = some (.string (btj y)) := hW1.2 1 _ rfl
  have HN : Hid (∀ W : World, Calls Tryz.prog 80 #[.string (btj y)] W fun e w' => e = .returned (.int .i64 (numV y : Nat)) ∧ W = w') := fun W => spec_l7Number (btj y) W
  have HM := Lib.hid (fun W : World => spec_StampManyI (numV y) W)
  have HCT := Lib.hid (fun W : World => spec_l7Count (stampI (numV y)) (stampI_cases _) W)
  obtain ⟨z, hz⟩ : ∃ z, z = stampI (numV y) := ⟨_, rfl⟩
  rw [← hz] at HM HCT ⊢
  obtain ⟨i, hi⟩ : ∃ i : Int, i = ((numV y : Nat) : Int) := ⟨_, rfl⟩
  rw [← hi] at HN HM
  obtain ⟨o, ho⟩ : ∃ o, o = cntTx z ++ [10] := ⟨_, rfl⟩
  rw [← ho] at HCT ⊢
  simp only [List.length_cons, List.length_nil] at hc
  clear hW1 ho hi hz hV hW hb1 hs
  obtain ⟨hI1, hk1, hk2⟩ := hV1
  go_enter Tryz.func56, Tryz.ntmps56
  go_wp2_with fail
  refine (HN.out _).mono ?_
  rintro e _ ⟨rfl, rfl⟩
  go_wp2_with fail
  refine (HM.out _).mono ?_
  rintro e w2 ⟨rfl, hb2⟩
  have HB2 := Lib.hid (HB1.out.trans (hb2.mono HB1.out.size))
  clear hb2
  go_wp2_with fail
  refine (HCT.out w2).mono ?_
  rintro e w3 ⟨rfl, hb3⟩
  have HB3 := Lib.hid (HB2.out.trans (hb3.mono HB2.out.size))
  clear hb3
  go_wp2_with fail
  go_ret
  exact ⟨rfl, HB3.out⟩
set_option maxHeartbeats 4000000 in
set_option maxRecDepth 100000 in
theorem spec_l7Ask_not2 (A : Option Addr) (c0 b off c : Nat) (s : Dk) (r : List (List UInt8)) (w : World) (hs : DkOk s) (hV : DkV w A c0 s) (hW : WordsR w b off ([109, 97, 110, 121] :: r)) (hc : ([109, 97, 110, 121] :: r).length ≤ c) (hcm : c ≤ maxLen) (hr : r.length ≠ 0) :
    Calls Tryz.prog 56 #[.agg #[.slice A s.1.length c0, .string (btj s.2)], .slice (some ⟨b, off, none⟩) (r.length + 1) c] w fun e w' => e = .returned (.string (btj (whatT ++ [10]))) ∧ Below w.heap.size w w' := by
  obtain ⟨hs1, hs2⟩ := hs.len
  have hb1 : Below w.heap.size w (w.alloc (.cells #[.slice A s.1.length c0, .string (btj s.2)] 53)) := (Below.refl _ _).alloc (Nat.le_refl _) _
  have hV1 := hV.below hb1
  have hW1 := hW.below hb1
  have hbl := hW1.1
  have HB1 := Lib.hid hb1
  unfold maxLen at hcm
  have n0 : (w.alloc (.cells #[.slice A s.1.length c0, .string (btj s.2)] 53)).cell? ⟨b, off, none⟩ = some (.string ⟨#[109, 97, 110, 121]⟩) := hW1.2 0 _ rfl
  have k1 : ((r.length : Int) + 1 == 1) = false := by rw [beq_eq_false_iff_ne]; omega
  have kz : (0 : Int) < (r.length : Int) + 1 := by omega
  clear hW1 hV hW hb1 hs hc hcm hr
  obtain ⟨hI1, hk1, hk2⟩ := hV1
  go_enter Tryz.func56, Tryz.ntmps56
  go_wp2_with fail
  go_ret
  exact ⟨rfl, HB1.out⟩
set_option maxHeartbeats 4000000 in
set_option maxRecDepth 100000 in
theorem spec_l7Ask_not3 (A : Option Addr) (c0 b off c : Nat) (s : Dk) (r : List (List UInt8)) (w : World) (hs : DkOk s) (hV : DkV w A c0 s) (hW : WordsR w b off ([102, 105, 114, 115, 116] :: r)) (hc : ([102, 105, 114, 115, 116] :: r).length ≤ c) (hcm : c ≤ maxLen) (hr : r.length ≠ 0) :
    Calls Tryz.prog 56 #[.agg #[.slice A s.1.length c0, .string (btj s.2)], .slice (some ⟨b, off, none⟩) (r.length + 1) c] w fun e w' => e = .returned (.string (btj (whatT ++ [10]))) ∧ Below w.heap.size w w' := by
  obtain ⟨hs1, hs2⟩ := hs.len
  have hb1 : Below w.heap.size w (w.alloc (.cells #[.slice A s.1.length c0, .string (btj s.2)] 53)) := (Below.refl _ _).alloc (Nat.le_refl _) _
  have hV1 := hV.below hb1
  have hW1 := hW.below hb1
  have hbl := hW1.1
  have HB1 := Lib.hid hb1
  unfold maxLen at hcm
  have n0 : (w.alloc (.cells #[.slice A s.1.length c0, .string (btj s.2)] 53)).cell? ⟨b, off, none⟩ = some (.string ⟨#[102, 105, 114, 115, 116]⟩) := hW1.2 0 _ rfl
  have k1 : ((r.length : Int) + 1 == 1) = false := by rw [beq_eq_false_iff_ne]; omega
  have kz : (0 : Int) < (r.length : Int) + 1 := by omega
  clear hW1 hV hW hb1 hs hc hcm hr
  obtain ⟨hI1, hk1, hk2⟩ := hV1
  go_enter Tryz.func56, Tryz.ntmps56
  go_wp2_with fail
  go_ret
  exact ⟨rfl, HB1.out⟩
set_option maxHeartbeats 4000000 in
set_option maxRecDepth 100000 in
theorem spec_l7Ask_not4 (A : Option Addr) (c0 b off c : Nat) (s : Dk) (r : List (List UInt8)) (w : World) (hs : DkOk s) (hV : DkV w A c0 s) (hW : WordsR w b off ([116, 101, 115, 116] :: r)) (hc : ([116, 101, 115, 116] :: r).length ≤ c) (hcm : c ≤ maxLen) (hr : r.length ≠ 0) :
    Calls Tryz.prog 56 #[.agg #[.slice A s.1.length c0, .string (btj s.2)], .slice (some ⟨b, off, none⟩) (r.length + 1) c] w fun e w' => e = .returned (.string (btj (whatT ++ [10]))) ∧ Below w.heap.size w w' := by
  obtain ⟨hs1, hs2⟩ := hs.len
  have hb1 : Below w.heap.size w (w.alloc (.cells #[.slice A s.1.length c0, .string (btj s.2)] 53)) := (Below.refl _ _).alloc (Nat.le_refl _) _
  have hV1 := hV.below hb1
  have hW1 := hW.below hb1
  have hbl := hW1.1
  have HB1 := Lib.hid hb1
  unfold maxLen at hcm
  have n0 : (w.alloc (.cells #[.slice A s.1.length c0, .string (btj s.2)] 53)).cell? ⟨b, off, none⟩ = some (.string ⟨#[116, 101, 115, 116]⟩) := hW1.2 0 _ rfl
  have k1 : ((r.length : Int) + 1 == 1) = false := by rw [beq_eq_false_iff_ne]; omega
  have kz : (0 : Int) < (r.length : Int) + 1 := by omega
  clear hW1 hV hW hb1 hs hc hcm hr
  obtain ⟨hI1, hk1, hk2⟩ := hV1
  go_enter Tryz.func56, Tryz.ntmps56
  go_wp2_with fail
  go_ret
  exact ⟨rfl, HB1.out⟩
set_option maxHeartbeats 4000000 in
set_option maxRecDepth 100000 in
theorem spec_l7Ask_not5 (A : Option Addr) (c0 b off c : Nat) (s : Dk) (r : List (List UInt8)) (w : World) (hs : DkOk s) (hV : DkV w A c0 s) (hW : WordsR w b off ([99, 114, 105, 109, 112] :: r)) (hc : ([99, 114, 105, 109, 112] :: r).length ≤ c) (hcm : c ≤ maxLen) (hr : r.length ≠ 1) :
    Calls Tryz.prog 56 #[.agg #[.slice A s.1.length c0, .string (btj s.2)], .slice (some ⟨b, off, none⟩) (r.length + 1) c] w fun e w' => e = .returned (.string (btj (whatT ++ [10]))) ∧ Below w.heap.size w w' := by
  obtain ⟨hs1, hs2⟩ := hs.len
  have hb1 : Below w.heap.size w (w.alloc (.cells #[.slice A s.1.length c0, .string (btj s.2)] 53)) := (Below.refl _ _).alloc (Nat.le_refl _) _
  have hV1 := hV.below hb1
  have hW1 := hW.below hb1
  have hbl := hW1.1
  have HB1 := Lib.hid hb1
  unfold maxLen at hcm
  have n0 : (w.alloc (.cells #[.slice A s.1.length c0, .string (btj s.2)] 53)).cell? ⟨b, off, none⟩ = some (.string ⟨#[99, 114, 105, 109, 112]⟩) := hW1.2 0 _ rfl
  have k1 : ((r.length : Int) + 1 == 2) = false := by rw [beq_eq_false_iff_ne]; omega
  have kz : (0 : Int) < (r.length : Int) + 1 := by omega
  clear hW1 hV hW hb1 hs hc hcm hr
  obtain ⟨hI1, hk1, hk2⟩ := hV1
  go_enter Tryz.func56, Tryz.ntmps56
  go_wp2_with fail
  go_ret
  exact ⟨rfl, HB1.out⟩
set_option maxHeartbeats 4000000 in
set_option maxRecDepth 100000 in
theorem spec_l7Ask_not6 (A : Option Addr) (c0 b off c : Nat) (s : Dk) (r : List (List UInt8)) (w : World) (hs : DkOk s) (hV : DkV w A c0 s) (hW : WordsR w b off ([115, 116, 114, 105, 112] :: r)) (hc : ([115, 116, 114, 105, 112] :: r).length ≤ c) (hcm : c ≤ maxLen) (hr : r.length < 2) :
    Calls Tryz.prog 56 #[.agg #[.slice A s.1.length c0, .string (btj s.2)], .slice (some ⟨b, off, none⟩) (r.length + 1) c] w fun e w' => e = .returned (.string (btj (whatT ++ [10]))) ∧ Below w.heap.size w w' := by
  obtain ⟨hs1, hs2⟩ := hs.len
  have hb1 : Below w.heap.size w (w.alloc (.cells #[.slice A s.1.length c0, .string (btj s.2)] 53)) := (Below.refl _ _).alloc (Nat.le_refl _) _
  have hV1 := hV.below hb1
  have hW1 := hW.below hb1
  have hbl := hW1.1
  have HB1 := Lib.hid hb1
  unfold maxLen at hcm
  have n0 : (w.alloc (.cells #[.slice A s.1.length c0, .string (btj s.2)] 53)).cell? ⟨b, off, none⟩ = some (.string ⟨#[115, 116, 114, 105, 112]⟩) := hW1.2 0 _ rfl
  have k1 : decide ((3 : Int) ≤ (r.length : Int) + 1) = false := by rw [decide_eq_false_iff_not]; omega
  have k2 : ¬ ((3 : Int) ≤ (r.length : Int) + 1) := by omega
  have kz : (0 : Int) < (r.length : Int) + 1 := by omega
  clear hW1 hV hW hb1 hs hc hcm hr
  obtain ⟨hI1, hk1, hk2⟩ := hV1
  go_enter Tryz.func56, Tryz.ntmps56
  go_wp2_with fail
  go_ret
  exact ⟨rfl, HB1.out⟩
set_option maxHeartbeats 4000000 in
set_option maxRecDepth 100000 in
theorem spec_l7Ask_not7 (A : Option Addr) (c0 b off c : Nat) (s : Dk) (r : List (List UInt8)) (w : World) (hs : DkOk s) (hV : DkV w A c0 s) (hW : WordsR w b off ([115, 116, 97, 99, 107] :: r)) (hc : ([115, 116, 97, 99, 107] :: r).length ≤ c) (hcm : c ≤ maxLen) (hr : r.length ≠ 1) :
    Calls Tryz.prog 56 #[.agg #[.slice A s.1.length c0, .string (btj s.2)], .slice (some ⟨b, off, none⟩) (r.length + 1) c] w fun e w' => e = .returned (.string (btj (whatT ++ [10]))) ∧ Below w.heap.size w w' := by
  obtain ⟨hs1, hs2⟩ := hs.len
  have hb1 : Below w.heap.size w (w.alloc (.cells #[.slice A s.1.length c0, .string (btj s.2)] 53)) := (Below.refl _ _).alloc (Nat.le_refl _) _
  have hV1 := hV.below hb1
  have hW1 := hW.below hb1
  have hbl := hW1.1
  have HB1 := Lib.hid hb1
  unfold maxLen at hcm
  have n0 : (w.alloc (.cells #[.slice A s.1.length c0, .string (btj s.2)] 53)).cell? ⟨b, off, none⟩ = some (.string ⟨#[115, 116, 97, 99, 107]⟩) := hW1.2 0 _ rfl
  have k1 : ((r.length : Int) + 1 == 2) = false := by rw [beq_eq_false_iff_ne]; omega
  have kz : (0 : Int) < (r.length : Int) + 1 := by omega
  clear hW1 hV hW hb1 hs hc hcm hr
  obtain ⟨hI1, hk1, hk2⟩ := hV1
  go_enter Tryz.func56, Tryz.ntmps56
  go_wp2_with fail
  go_ret
  exact ⟨rfl, HB1.out⟩
set_option maxHeartbeats 4000000 in
set_option maxRecDepth 100000 in
theorem spec_l7Ask_not8 (A : Option Addr) (c0 b off c : Nat) (s : Dk) (r : List (List UInt8)) (w : World) (hs : DkOk s) (hV : DkV w A c0 s) (hW : WordsR w b off ([119, 111, 114, 100] :: r)) (hc : ([119, 111, 114, 100] :: r).length ≤ c) (hcm : c ≤ maxLen) (hr : r.length ≠ 1) :
    Calls Tryz.prog 56 #[.agg #[.slice A s.1.length c0, .string (btj s.2)], .slice (some ⟨b, off, none⟩) (r.length + 1) c] w fun e w' => e = .returned (.string (btj (whatT ++ [10]))) ∧ Below w.heap.size w w' := by
  obtain ⟨hs1, hs2⟩ := hs.len
  have hb1 : Below w.heap.size w (w.alloc (.cells #[.slice A s.1.length c0, .string (btj s.2)] 53)) := (Below.refl _ _).alloc (Nat.le_refl _) _
  have hV1 := hV.below hb1
  have hW1 := hW.below hb1
  have hbl := hW1.1
  have HB1 := Lib.hid hb1
  unfold maxLen at hcm
  have n0 : (w.alloc (.cells #[.slice A s.1.length c0, .string (btj s.2)] 53)).cell? ⟨b, off, none⟩ = some (.string ⟨#[119, 111, 114, 100]⟩) := hW1.2 0 _ rfl
  have k1 : ((r.length : Int) + 1 == 2) = false := by rw [beq_eq_false_iff_ne]; omega
  have kz : (0 : Int) < (r.length : Int) + 1 := by omega
  clear hW1 hV hW hb1 hs hc hcm hr
  obtain ⟨hI1, hk1, hk2⟩ := hV1
  go_enter Tryz.func56, Tryz.ntmps56
  go_wp2_with fail
  go_ret
  exact ⟨rfl, HB1.out⟩
set_option maxHeartbeats 4000000 in
set_option maxRecDepth 100000 in
theorem spec_l7Ask_not9 (A : Option Addr) (c0 b off c : Nat) (s : Dk) (r : List (List UInt8)) (w : World) (hs : DkOk s) (hV : DkV w A c0 s) (hW : WordsR w b off ([115, 116, 97, 109, 112, 115] :: r)) (hc : ([115, 116, 97, 109, 112, 115] :: r).length ≤ c) (hcm : c ≤ maxLen) (hr : r.length ≠ 1) :
    Calls Tryz.prog 56 #[.agg #[.slice A s.1.length c0, .string (btj s.2)], .slice (some ⟨b, off, none⟩) (r.length + 1) c] w fun e w' => e = .returned (.string (btj (whatT ++ [10]))) ∧ Below w.heap.size w w' := by
  obtain ⟨hs1, hs2⟩ := hs.len
  have hb1 : Below w.heap.size w (w.alloc (.cells #[.slice A s.1.length c0, .string (btj s.2)] 53)) := (Below.refl _ _).alloc (Nat.le_refl _) _
  have hV1 := hV.below hb1
  have hW1 := hW.below hb1
  have hbl := hW1.1
  have HB1 := Lib.hid hb1
  unfold maxLen at hcm
  have n0 : (w.alloc (.cells #[.slice A s.1.length c0, .string (btj s.2)] 53)).cell? ⟨b, off, none⟩ = some (.string ⟨#[115, 116, 97, 109, 112, 115]⟩) := hW1.2 0 _ rfl
  have k1 : ((r.length : Int) + 1 == 2) = false := by rw [beq_eq_false_iff_ne]; omega
  have kz : (0 : Int) < (r.length : Int) + 1 := by omega
  clear hW1 hV hW hb1 hs hc hcm hr
  obtain ⟨hI1, hk1, hk2⟩ := hV1
  go_enter Tryz.func56, Tryz.ntmps56
  go_wp2_with fail
  go_ret
  exact ⟨rfl, HB1.out⟩
set_option maxHeartbeats 4000000 in
set_option maxRecDepth 100000 in
theorem spec_l7Ask_other (A : Option Addr) (c0 b off c : Nat) (s : Dk) (x : List UInt8) (r : List (List UInt8)) (w : World) (hs : DkOk s) (hV : DkV w A c0 s) (hW : WordsR w b off (x :: r)) (hc : (x :: r).length ≤ c) (hcm : c ≤ maxLen) (hx : ∀ k, k < 10 → 2 ≤ k → x ≠ cmdName k) :
    Calls Tryz.prog 56 #[.agg #[.slice A s.1.length c0, .string (btj s.2)], .slice (some ⟨b, off, none⟩) (r.length + 1) c] w fun e w' => e = .returned (.string (btj (whatT ++ [10]))) ∧ Below w.heap.size w w' := by
  obtain ⟨hs1, hs2⟩ := hs.len
  have hb1 : Below w.heap.size w (w.alloc (.cells #[.slice A s.1.length c0, .string (btj s.2)] 53)) := (Below.refl _ _).alloc (Nat.le_refl _) _
  have hV1 := hV.below hb1
  have hW1 := hW.below hb1
  have hbl := hW1.1
  have HB1 := Lib.hid hb1
  unfold maxLen at hcm
  have n0 : (w.alloc (.cells #[.slice A s.1.length c0, .string (btj s.2)] 53)).cell? ⟨b, off, none⟩ = some (.string (btj x)) := hW1.2 0 _ rfl
  have t2 : (x == [109, 97, 110, 121]) = false := by rw [beq_eq_false_iff_ne]; exact hx 2 (by decide) (by decide)
  have t3 : (x == [102, 105, 114, 115, 116]) = false := by rw [beq_eq_false_iff_ne]; exact hx 3 (by decide) (by decide)
  have t4 : (x == [116, 101, 115, 116]) = false := by rw [beq_eq_false_iff_ne]; exact hx 4 (by decide) (by decide)
  have t5 : (x == [99, 114, 105, 109, 112]) = false := by rw [beq_eq_false_iff_ne]; exact hx 5 (by decide) (by decide)
  have t6 : (x == [115, 116, 114, 105, 112]) = false := by rw [beq_eq_false_iff_ne]; exact hx 6 (by decide) (by decide)
  have t7 : (x == [115, 116, 97, 99, 107]) = false := by rw [beq_eq_false_iff_ne]; exact hx 7 (by decide) (by decide)
  have t8 : (x == [119, 111, 114, 100]) = false := by rw [beq_eq_false_iff_ne]; exact hx 8 (by decide) (by decide)
  have t9 : (x == [115, 116, 97, 109, 112, 115]) = false := by rw [beq_eq_false_iff_ne]; exact hx 9 (by decide) (by decide)
  have kz : (0 : Int) < (r.length : Int) + 1 := by omega
  clear hW1 hV hW hb1 hs hc hcm hx
  obtain ⟨hI1, hk1, hk2⟩ := hV1
  go_enter Tryz.func56, Tryz.ntmps56
  go_wp2_with fail
  go_ret
  exact ⟨rfl, HB1.out⟩
theorem spec_l7Ask (A : Option Addr) (c0 b off c : Nat) (s : Dk) (x : List UInt8) (r : List (List UInt8)) (w : World) (hs : DkOk s) (hV : DkV w A c0 s) (hW : WordsR w b off (x :: r)) (hc : (x :: r).length ≤ c) (hcm : c ≤ maxLen) (hr : r.length ≤ 300) (hy : ∀ y ∈ r, y.length ≤ 300) :
    Calls Tryz.prog 56 #[.agg #[.slice A s.1.length c0, .string (btj s.2)], .slice (some ⟨b, off, none⟩) (r.length + 1) c] w fun e w' => e = .returned (.string (btj (askT s x r ++ [10]))) ∧ Below w.heap.size w w' := by
  by_cases h : ∃ c, c < 10 ∧ 2 ≤ c ∧ cmdIs c x r.length = true
  · obtain ⟨k, hk10, hk2, hk⟩ := h
    obtain ⟨hn, hle, hmo⟩ := cmdIs_parts hk
    obtain ⟨a2, a3, a4, a5, a6, a7, a8, a9⟩ := askT_c (s := s) hk10 hk
    subst hn
    rcases cmd_ten hk10 with rfl | rfl | rfl | rfl | rfl | rfl | rfl | rfl | rfl | rfl
    · omega
    · omega
    · obtain rfl : r = [] := List.eq_nil_of_length_eq_zero (Nat.le_zero.1 hmo)
      rw [a2 rfl]
      exact spec_l7Ask_many A c0 b off c s w hs hV hW hc hcm
    · obtain rfl : r = [] := List.eq_nil_of_length_eq_zero (Nat.le_zero.1 hmo)
      rw [a3 rfl]
      exact spec_l7Ask_first A c0 b off c s w hs hV hW hc hcm
    · obtain rfl : r = [] := List.eq_nil_of_length_eq_zero (Nat.le_zero.1 hmo)
      rw [a4 rfl]
      exact spec_l7Ask_test A c0 b off c s w hs hV hW hc hcm
    · obtain ⟨y, rfl⟩ := one_of (show r.length = 1 from Nat.le_antisymm hmo hle)
      rw [a5 rfl]
      exact spec_l7Ask_crimp A c0 b off c s y w hs hV hW hc hcm
    · rw [a6 rfl]
      cases r with
      | nil => exact absurd hle (by decide)
      | cons y q =>
        exact spec_l7Ask_strip A c0 b off c s y q w hs hV hW hc hcm (by have : 2 ≤ (y :: q).length := hle; simp at this; omega) (by simp at hr; omega) (Nat.le_trans (hy y (by simp)) (by omega))
    · obtain ⟨y, rfl⟩ := one_of (show r.length = 1 from Nat.le_antisymm hmo hle)
      rw [a7 rfl]
      exact spec_l7Ask_stack A c0 b off c s y w hs hV hW hc hcm (Nat.le_trans (hy y (by simp)) (by omega))
    · obtain ⟨y, rfl⟩ := one_of (show r.length = 1 from Nat.le_antisymm hmo hle)
      rw [a8 rfl]
      exact spec_l7Ask_word A c0 b off c s y w hs hV hW hc hcm (Nat.le_trans (hy y (by simp)) (by omega))
    · obtain ⟨y, rfl⟩ := one_of (show r.length = 1 from Nat.le_antisymm hmo hle)
      rw [a9 rfl]
      exact spec_l7Ask_stamps A c0 b off c s y w hs hV hW hc hcm
  · have hno : ∀ c, c < 10 → 2 ≤ c → cmdIs c x r.length = false := fun c h1 h2 => by
      cases hq : cmdIs c x r.length with
      | false => rfl
      | true => exact absurd ⟨c, h1, h2, hq⟩ h
    have ha : askT s x r = whatT := by
      unfold askT
      rw [ifF (hno 2 (by decide) (by decide)), ifF (hno 3 (by decide) (by decide)), ifF (hno 4 (by decide) (by decide)), ifF (hno 5 (by decide) (by decide)), ifF (hno 6 (by decide) (by decide)), ifF (hno 7 (by decide) (by decide)), ifF (hno 8 (by decide) (by decide)), ifF (hno 9 (by decide) (by decide))]
    rw [ha]
    have hbad : ∀ k, k < 10 → 2 ≤ k → cmdName k = x → ¬ (cmdLeast k ≤ r.length ∧ r.length ≤ cmdMost k) := fun k h1 h2 h3 h4 => by
      have := hno k h1 h2
      unfold cmdIs at this
      rw [h3, decide_eq_true h4.1, decide_eq_true h4.2] at this
      simp at this
    by_cases e2 : cmdName 2 = x
    · have hb := hbad 2 (by decide) (by decide) e2
      subst e2
      exact spec_l7Ask_not2 A c0 b off c s r w hs hV hW hc hcm (by
        have hb2 : ¬ (0 ≤ r.length ∧ r.length ≤ 0) := hb
        omega)
    by_cases e3 : cmdName 3 = x
    · have hb := hbad 3 (by decide) (by decide) e3
      subst e3
      exact spec_l7Ask_not3 A c0 b off c s r w hs hV hW hc hcm (by
        have hb2 : ¬ (0 ≤ r.length ∧ r.length ≤ 0) := hb
        omega)
    by_cases e4 : cmdName 4 = x
    · have hb := hbad 4 (by decide) (by decide) e4
      subst e4
      exact spec_l7Ask_not4 A c0 b off c s r w hs hV hW hc hcm (by
        have hb2 : ¬ (0 ≤ r.length ∧ r.length ≤ 0) := hb
        omega)
    by_cases e5 : cmdName 5 = x
    · have hb := hbad 5 (by decide) (by decide) e5
      subst e5
      exact spec_l7Ask_not5 A c0 b off c s r w hs hV hW hc hcm (by
        have hb2 : ¬ (1 ≤ r.length ∧ r.length ≤ 1) := hb
        omega)
    by_cases e6 : cmdName 6 = x
    · have hb := hbad 6 (by decide) (by decide) e6
      subst e6
      exact spec_l7Ask_not6 A c0 b off c s r w hs hV hW hc hcm (by
        have hb2 : ¬ (2 ≤ r.length ∧ r.length ≤ 301) := hb
        omega)
    by_cases e7 : cmdName 7 = x
    · have hb := hbad 7 (by decide) (by decide) e7
      subst e7
      exact spec_l7Ask_not7 A c0 b off c s r w hs hV hW hc hcm (by
        have hb2 : ¬ (1 ≤ r.length ∧ r.length ≤ 1) := hb
        omega)
    by_cases e8 : cmdName 8 = x
    · have hb := hbad 8 (by decide) (by decide) e8
      subst e8
      exact spec_l7Ask_not8 A c0 b off c s r w hs hV hW hc hcm (by
        have hb2 : ¬ (1 ≤ r.length ∧ r.length ≤ 1) := hb
        omega)
    by_cases e9 : cmdName 9 = x
    · have hb := hbad 9 (by decide) (by decide) e9
      subst e9
      exact spec_l7Ask_not9 A c0 b off c s r w hs hV hW hc hcm (by
        have hb2 : ¬ (1 ≤ r.length ∧ r.length ≤ 1) := hb
        omega)
    have hx01 : ∀ k, k < 10 → 2 ≤ k → x ≠ cmdName k := fun k h1 h2 e => by
      rcases cmd_ten h1 with rfl | rfl | rfl | rfl | rfl | rfl | rfl | rfl | rfl | rfl
      · omega
      · omega
      · exact e2 e.symm
      · exact e3 e.symm
      · exact e4 e.symm
      · exact e5 e.symm
      · exact e6 e.symm
      · exact e7 e.symm
      · exact e8 e.symm
      · exact e9 e.symm
    exact spec_l7Ask_other A c0 b off c s x r w hs hV hW hc hcm hx01
end Go.Proofs.YtkdlipbegdiaaaaGreatDoor
