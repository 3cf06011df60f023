/- A sheet folded once: the program's. No condition but sizes. A sheet folded once: the program's. No condition but sizes. -/
import Derived.Test.YtkdlipbegdiaaaaGreatDoorEzBP9
namespace Go.Proofs.YtkdlipbegdiaaaaGreatDoor
open Go.RowKit
/-- the stacks laid so far: whole rows, and the beginning of one -/
def gridTo (n : Nat) (F : Nat → Nat → List Cl) (i j : Nat) : List (List Cl) := ((List.range i).flatMap fun i => (List.range n).map (F i)) ++ (List.range j).map (F i)
theorem gridTo_succ (n : Nat) (F : Nat → Nat → List Cl) (i j : Nat) : gridTo n F i (j + 1) = gridTo n F i j ++ [F i j] := by
  unfold gridTo
  rw [List.range_succ, List.map_append, List.append_assoc]; rfl
theorem gridTo_row (n : Nat) (F : Nat → Nat → List Cl) (i : Nat) : gridTo n F i n = gridTo n F (i + 1) 0 := by
  unfold gridTo
  rw [List.range_succ, List.flatMap_append]
  simp
theorem gridTo_len (n : Nat) (F : Nat → Nat → List Cl) (i j : Nat) : (gridTo n F i j).length = i * n + j := by
  have : ∀ i, ((List.range i).flatMap fun i => (List.range n).map (F i)).length = i * n := by
    intro i
    induction i with
    | zero => simp
    | succ i ih => rw [List.range_succ, List.flatMap_append, List.length_append, ih, Nat.succ_mul]; simp
  unfold gridTo
  rw [List.length_append, this, List.length_map, List.length_range]
theorem gridTo_end (n : Nat) (F : Nat → Nat → List Cl) (i : Nat) : gridTo n F i 0 = (List.range i).flatMap fun i => (List.range n).map (F i) := by
  unfold gridTo; simp
theorem run_makeS (W : World) (B n : Nat) (hn : n ≤ 4000) (hB : B ≤ W.heap.size) : ∃ w', (Instr.makeSlice 185 (.int .i64 0) (.int .i64 (n : Int))).run Tryz.prog W = .ok (.slice (some ⟨W.heap.size, 0, none⟩) 0 n) w' ∧ OwnS w' B (.slice (some ⟨W.heap.size, 0, none⟩) 0 n) 0 [] ∧ W.grownBy w' none := by
  obtain ⟨i0, hi, hz0, hz1, hz2⟩ := info_parts Tryz.infoSk
  exact run_make_own (P := Tryz.prog) W B 185 162 i0 _ 1 Tryz.underlying185 hi hz0 hz1 .i64 .i64 n (by rw [hz2]; omega) (by unfold maxLen; omega) hB
/-- a stack does not lie in a sheet's own block -/
theorem SlC.sheet {w : World} {v : Value} {S : List Cl} {r i : Nat} {t : TypeId} {x y : Int} {A : Option Addr} {n c : Nat} (u : Value) (h : SlC w v S) (hr : Blk w r t #[.int .i64 x, .int .i64 y, .slice A n c]) : SlC (w.setCell ⟨r, i, none⟩ u) v S := by
  obtain ⟨As, cs, e, hrow, h1, h2⟩ := h
  refine ⟨As, cs, e, ?_, h1, h2⟩
  intro hne
  obtain ⟨b, off, eb, hb, hc⟩ := hrow hne
  have hbr : b ≠ r := by
    intro e
    subst e
    cases S with
    | nil => exact hne rfl
    | cons s S =>
      have q0 := hc 0 (.int .i64 s.1) rfl
      have q2 := hc 2 (.bool s.2.2.1) rfl
      rw [hr.cell] at q0 q2
      match off, q0, q2 with
      | 0, q0, q2 => simp at q2
      | 1, q0, q2 => simp at q2
      | 2, q0, q2 => simp at q0
      | (k + 3), q0, q2 => simp at q0
  refine ⟨b, off, eb, by simpa using hb, fun j u' hj => ?_⟩
  exact (World.cell?_setCell_other w _ _ u (by intro h; simp only [Addr.mk.injEq] at h; exact hbr h.1.symm)).trans (hc j u' hj)
theorem StkR.sheet {w : World} {vs : List Value} {Ss : List (List Cl)} {r i : Nat} {t : TypeId} {x y : Int} {A : Option Addr} {n c : Nat} (u : Value) (h : StkR w vs Ss) (hr : Blk w r t #[.int .i64 x, .int .i64 y, .slice A n c]) : StkR (w.setCell ⟨r, i, none⟩ u) vs Ss :=
  ⟨h.1, fun k v S h1 h2 => (h.2 k v S h1 h2).sheet u hr⟩
theorem SlC.grown {w w' : World} {v : Value} {S : List Cl} {row : Option Nat} (h : SlC w v S) (hg : w.grownBy w' row) (hne : ∀ g, v.ownBlock = some g → row ≠ some g) : SlC w' v S := by
  obtain ⟨A, c, rfl, hrow, h1, h2⟩ := h
  refine ⟨A, c, rfl, ?_, h1, h2⟩
  intro hn
  obtain ⟨b, off, rfl, hb, hc⟩ := hrow hn
  exact ⟨b, off, rfl, Nat.lt_of_lt_of_le hb hg.size, fun j u hj => (hg.cell_far ⟨b, off + j, none⟩ hb (fun e => hne b rfl e.symm)).trans (hc j u hj)⟩
/-- no stack lies in the block of the row that tells the stacks -/
def Apt (s : Value) (vs : List Value) : Prop := ∀ v ∈ vs, ∀ g, v.ownBlock = some g → s.ownBlock ≠ some g
theorem Apt.nil (s : Value) : Apt s [] := fun v hv => by cases hv
theorem sl_lt {w : World} {v : Value} {S : List Cl} (h : SlC w v S) (hn : S ≠ []) : ∀ g, v.ownBlock = some g → g < w.heap.size := by
  obtain ⟨A, c, rfl, hrow, _, _⟩ := h
  obtain ⟨b, off, rfl, hb, _⟩ := hrow (by
    intro e
    apply hn
    have := congrArg List.length e
    rw [clL_len, List.length_nil] at this
    exact List.eq_nil_of_length_eq_zero (by omega))
  intro g hg
  cases hg; exact hb
/-- the same behind an append to the row that tells the stacks -/
theorem StkR.grown {w w' : World} {s : Value} {vs : List Value} {Ss : List (List Cl)} (h : StkR w vs Ss) (ha : Apt s vs) (hg : w.grownBy w' s.ownBlock) : StkR w' vs Ss :=
  ⟨h.1, fun k v S h1 h2 => (h.2 k v S h1 h2).grown hg (fun g e => ha v (List.mem_of_getElem? h1) g e)⟩
theorem Apt.moved {W : World} {s s' : Value} {vs : List Value} {Ss : List (List Cl)} (h : Apt s vs) (hv : StkR W vs Ss) (hn : ∀ S ∈ Ss, S ≠ []) (hm : MovedX W s s') : Apt s' vs := by
  intro v hmem g e hs
  rcases hm with hm | hm
  · rw [hm] at hs; exact h v hmem g e hs
  · have h1 := hm g hs
    obtain ⟨k, hk⟩ := List.getElem?_of_mem hmem
    have hlt : k < Ss.length := by rw [← hv.1]; exact (List.getElem?_eq_some_iff.1 hk).1
    have := sl_lt (hv.2 k v _ hk (List.getElem?_eq_getElem hlt)) (hn _ (List.getElem_mem hlt)) g e
    omega
theorem Apt.snoc {s : Value} {vs : List Value} {v : Value} (h : Apt s vs) (hv : ∀ g, v.ownBlock = some g → s.ownBlock ≠ some g) : Apt s (vs ++ [v]) := by
  intro u hu
  rcases List.mem_append.1 hu with hu | hu
  · exact h u hu
  · rw [List.mem_singleton] at hu; subst hu; exact hv
theorem putS_ne {a b : List Cl} {hi un : Bool} (h : a ≠ []) : putS a b hi un ≠ [] := by
  unfold putS
  split
  · intro e; exact h (List.append_eq_nil_iff.1 e).2
  · intro e; exact h (List.append_eq_nil_iff.1 e).1
theorem gridTo_mem {n : Nat} {F : Nat → Nat → List Cl} {i j : Nat} {S : List Cl} (h : S ∈ gridTo n F i j) : (∃ a b, a < i ∧ b < n ∧ S = F a b) ∨ ∃ b, b < j ∧ S = F i b := by
  unfold gridTo at h
  rcases List.mem_append.1 h with h | h
  · obtain ⟨a, ha, h⟩ := List.mem_flatMap.1 h
    obtain ⟨b, hb, rfl⟩ := List.mem_map.1 h
    exact Or.inl ⟨a, b, List.mem_range.1 ha, List.mem_range.1 hb, rfl⟩
  · obtain ⟨b, hb, rfl⟩ := List.mem_map.1 h
    exact Or.inr ⟨b, List.mem_range.1 hb, rfl⟩
theorem half2 {C H : Nat} (h : C = 2 * H) : ((C : Int).tdiv 2 = (H : Int)) ∧ ((C : Int) / 2 = (H : Int)) := by
  have e : (C : Int) / 2 = (H : Int) := by omega
  exact ⟨by rw [Int.tdiv_eq_ediv_of_nonneg (by omega)]; exact e, e⟩
theorem stay_lt {i half : Nat} (first : Bool) (h : i < half) : stay i half first < 2 * half := by unfold stay; split <;> omega
theorem moved_lt {i half : Nat} (first : Bool) (h : i < half) : moved i half first < 2 * half := by unfold moved; split <;> omega
theorem shAt_mem {S : Sh} (hl : S.2.2.length = S.1 * S.2.1) {i j : Nat} (hi : i < S.1) (hj : j < S.2.1) : shAt S i j ∈ S.2.2 := List.mem_of_getElem? (shAt_get hl hi hj)
theorem sl_len {w : World} {v : Value} {S : List Cl} (h : SlC w v S) : ∃ A c, v = .slice A S.length c ∧ RowV w A (clL S) := by
  obtain ⟨A, c, e, hr, _, _⟩ := h
  exact ⟨A, c, e, hr⟩
set_option maxHeartbeats 4000000 in
set_option maxRecDepth 100000 in
theorem impl_foldWidth (r : Nat) (S : Sh) (first under : Bool) (H : Nat) (w : World) (h : ShM w r S) (hC : S.2.1 = 2 * H) (hr : S.1 ≤ 32) (hc : S.2.1 ≤ 32) (hs : ∀ x ∈ S.2.2, x.length ≤ 500 ∧ x ≠ []) :
    Calls Tryz.prog 175 #[ptr r, .bool first, .bool under] w fun e w' => e = .returned (.tuple #[]) ∧ ShM w' r (foldW S first under) ∧ w.grownBy w' (some r) := by
  obtain ⟨A, c, vs0, h1, h2, h3, h4, h5⟩ := h.ex
  have c0 : w.cell? ⟨r, 0, none⟩ = some (.int .i64 S.1) := h1.cell 0
  have c1 : w.cell? ⟨r, 1, none⟩ = some (.int .i64 S.2.1) := h1.cell 1
  have hrl := h1.lt
  have hlen := h.len
  obtain ⟨F, hF⟩ : ∃ F : Nat → Nat → List Cl, F = fun i j => putS (shAt S i (stay j H first)) (shAt S i (moved j H first)) false under := ⟨_, rfl⟩
  have HFin : Hid (foldW S first under = (S.1, H, gridTo H F S.1 0)) := by
    show _ = _
    rw [gridTo_end, hF]
    unfold foldW
    have e2 : S.2.1 / 2 = H := by omega
    rw [e2]
  have HMem : Hid (∀ i j, i < S.1 → j < S.2.1 → (shAt S i j).length ≤ 500) := fun i j hi hj => (hs _ (shAt_mem hlen hi hj)).1
  have HNE : Hid (∀ i j, i < S.1 → j < H → F i j ≠ []) := by
    show ∀ i j, _
    intro i j hi hj
    rw [hF]
    exact putS_ne (hs _ (shAt_mem hlen hi (by rw [hC]; exact stay_lt first hj))).2
  have HSH := Lib.hid h
  have H1 := Lib.hid h1
  obtain ⟨kq1, kq2⟩ := half2 hC
  obtain ⟨R, hR⟩ : ∃ R, R = S.1 := ⟨_, rfl⟩
  obtain ⟨C, hCC⟩ : ∃ C, C = S.2.1 := ⟨_, rfl⟩
  rw [← hR] at c0 hr HMem HFin HNE
  rw [← hCC] at c1 hc HMem
  rw [← hCC] at hC kq1 kq2
  obtain ⟨N, hN⟩ : ∃ N, N = R * H := ⟨_, rfl⟩
  have hN4 : N ≤ 1024 := by rw [hN]; exact Nat.le_trans (Nat.mul_le_mul (by omega : R ≤ 32) (by omega : H ≤ 32)) (by omega)
  have HN := Lib.hid hN
  have HRR := Lib.hid hR
  have HCC := Lib.hid hCC
  have HFF := Lib.hid hF
  have kw : IntKind.i64.wrap ((R : Int) * (H : Int)) = (N : Int) := by
    have : (R : Int) * (H : Int) = (N : Int) := by rw [hN, Int.natCast_mul]
    rw [this]; exact IntWalk.i64_in _ (by omega)
  have HFL : Hid (∀ i j, i < R → j < C → i < R) := fun i j h _ => h
  obtain ⟨w1, hrun, ho1, hg1⟩ := run_makeS w w.heap.size N (by omega) (Nat.le_refl _)
  have HB1 := Lib.hid ((Below.refl w.heap.size w).grown hg1 (Nat.le_refl _) (by intro k hk; cases hk))
  have HO1 := Lib.hid ho1
  have HLN : Hid (∀ i j, i ≤ R → j ≤ H → i * H + j ≤ 2000) := by
    show ∀ i j, _
    intro i j hi hj
    have := Nat.mul_le_mul (show i ≤ 32 by omega) (show H ≤ 32 by omega)
    omega
  have HS1 : Hid (S.1 * S.2.1 ≤ 4000) := by
    show _ ≤ _
    rw [← hR, ← hCC]
    have := Nat.mul_le_mul hr hc
    omega
  have HC := Lib.hid hC
  clear ho1 hg1 hlen h1 h2 h3 h4 h5 h hs hF hN hR hCC hC
  go_enter Tryz.func175, Tryz.ntmps175
  go_wp2_with fail
  go_loopg [7, 8] (R + 1) (fun gg s7 s8 wr => ∃ (i : Nat) (vs : List Value), i ≤ R ∧ s8 = .int .i64 i ∧ R - i < gg ∧ Hid (Below w.heap.size w wr) ∧ Hid (OwnS wr w.heap.size s7 vs.length vs) ∧ Hid (StkR wr vs (gridTo H F i 0)) ∧ Hid (Apt s7 vs))
  case atStart => exact ⟨0, [], Nat.zero_le _, rfl, by omega, HB1, HO1, StkR.nil _, Apt.nil _⟩
  case round =>
    clear HB1 HO1 hrun
    obtain ⟨i, vs, hi, rfl, hg, HB, HO, HV, HP0⟩ := hrel
    cases gk with
    | zero => omega
    | succ g1 =>
    obtain ⟨wo, hwo⟩ : ∃ wo, wo = wr := ⟨_, rfl⟩
    subst hwo
    have r0 := (HB.out.cell (p := ⟨r, 0, none⟩) hrl).trans c0
    have r1 := (HB.out.cell (p := ⟨r, 1, none⟩) hrl).trans c1
    by_cases hlt : i < R
    · have hi1 : i < R := hlt
      obtain ⟨A7, c7, rfl, _, _, _⟩ := own_formX HO.out
      have HV0 := HV
      have HP1 := HP0
      have HO0 := HO
      clear HV HO HP0
      go_wp2_with fail
      go_loopg [7, 9] (H + 1) (fun gg s7 s9 wr => ∃ (j : Nat) (vs : List Value), j ≤ H ∧ s9 = .int .i64 j ∧ H - j < gg ∧ Hid (Below w.heap.size w wr) ∧ Hid (OwnS wr w.heap.size s7 vs.length vs) ∧ Hid (StkR wr vs (gridTo H F i j)) ∧ Hid (Apt s7 vs))
      case atStart => exact ⟨0, vs, Nat.zero_le _, rfl, by omega, HB, HO0, HV0, HP1⟩
      case round =>
        clear HB HO0 HV0 HP1 r0 r1
        obtain ⟨j, vs, hj, rfl, hg, HB, HO, HV, HAp⟩ := hrel
        cases gk with
        | zero => omega
        | succ g2 =>
        have r0 := (HB.out.cell (p := ⟨r, 0, none⟩) hrl).trans c0
        have r1 := (HB.out.cell (p := ⟨r, 1, none⟩) hrl).trans c1
        by_cases hjt : j < H
        · obtain ⟨A7, c7, rfl, _, _, _⟩ := own_formX HO.out
          have HP := Lib.hid (impl_foldedPlaces j H first wr hjt (by omega))
          obtain ⟨p1, hp1⟩ : ∃ p, p = stay j H first := ⟨_, rfl⟩
          obtain ⟨p2, hp2⟩ : ∃ p, p = moved j H first := ⟨_, rfl⟩
          have hb1 : p1 < C := by rw [hp1, HC.out]; exact stay_lt first hjt
          have hb2 : p2 < C := by rw [hp2, HC.out]; exact moved_lt first hjt
          rw [← hp1, ← hp2] at HP
          have HPP := Lib.hid (And.intro hp1 hp2)
          clear hp1 hp2
          go_wp2_with fail
          refine HP.out.mono ?_
          rintro e _ ⟨rfl, rfl⟩
          have hsh := HSH.out.below HB.out
          have HW3 := Lib.hid (impl_stackAt r i p1 S wr hsh (by rw [← HRR.out]; exact hi1) (by rw [← HCC.out]; exact hb1) HS1.out)
          clear hsh
          go_wp2_with fail
          refine HW3.out.mono ?_
          rintro e w3 ⟨⟨v1, rfl, hS1⟩, hb3⟩
          obtain ⟨T1, hT1⟩ : ∃ T, T = shAt S i p1 := ⟨_, rfl⟩
          obtain ⟨T2, hT2⟩ : ∃ T, T = shAt S i p2 := ⟨_, rfl⟩
          have hl1 : T1.length ≤ 500 := by rw [hT1]; exact HMem.out _ _ hi1 hb1
          have hl2 : T2.length ≤ 500 := by rw [hT2]; exact HMem.out _ _ hi1 hb2
          have hFij : F i j = putS T1 T2 false under := by rw [HFF.out, hT1, hT2, HPP.out.1, HPP.out.2]
          have HFij := Lib.hid hFij
          have HT2 := Lib.hid hT2
          rw [← hT1] at hS1
          obtain ⟨A1, k1, rfl, hr1⟩ := sl_len hS1
          have hw4 : Below wr.heap.size wr (w3.alloc (.cells #[.slice A1 T1.length k1] 162)) := hb3.alloc hb3.size _
          have HW5 := Lib.hid (impl_stackAt r i p2 S (w3.alloc (.cells #[.slice A1 T1.length k1] 162)) ((HSH.out.below HB.out).below hw4) (by rw [← HRR.out]; exact hi1) (by rw [← HCC.out]; exact hb2) HS1.out)
          have hq3 : wr.heap.size ≤ w3.heap.size := hb3.size
          have HK4 := Lib.hid (Blk.new w3 162 #[.slice A1 T1.length k1])
          have HR1 := Lib.hid (hr1.alloc (.cells #[.slice A1 T1.length k1] 162))
          have HW4 := Lib.hid hw4
          clear hT1 hT2 hFij hS1 hr1 hw4 HW3 hb3
          go_wp2_with fail
          refine HW5.out.mono ?_
          rintro e w5 ⟨⟨v2, rfl, hS2⟩, hb5⟩
          rw [← HT2.out] at hS2
          obtain ⟨A2, k2, rfl, hr2⟩ := sl_len hS2
          have HJ := Lib.hid (impl_join_W w3.heap.size A1 A2 k1 k2 T1 T2 under w5 (HK4.out.below hb5 HK4.out.lt) (HR1.out.below hb5) hr2 (by omega) (by omega))
          have hw5 := HW4.out.trans (hb5.mono HW4.out.size)
          have HW6 := Lib.hid hw5
          clear hS2 hr2 hb5 HW5 HW4 HK4 HR1 hw5
          go_wp2_with fail
          refine HJ.out.mono ?_
          rintro e w6 ⟨rfl, ⟨v6, hk6, hS6, hlo6⟩, hg6⟩
          have hb6 : Below wr.heap.size wr w6 := HW6.out.grown hg6 HW6.out.size (fun g e => by cases e; exact hq3)
          obtain ⟨A6, k6, rfl, _⟩ := sl_len hS6
          have d6 := hk6.cell 0
          have d6' : w6.cell? ⟨w3.heap.size, 0, none⟩ = some (.slice A6 (putS T1 T2 false under).length k6) := d6
          obtain ⟨M6, hM6⟩ : ∃ M, M = putS T1 T2 false under := ⟨_, rfl⟩
          rw [← hM6] at d6' hS6 hlo6
          have HM6 := Lib.hid hM6
          have hal := (Below.refl w6.heap.size w6).alloc (Nat.le_refl _) (.cells #[.slice A6 M6.length k6] 162)
          have hb7 : Below wr.heap.size wr (w6.alloc (.cells #[.slice A6 M6.length k6] 162)) := hb6.alloc hb6.size _
          have HOB := Lib.hid (own_belowX HO.out hb7)
          have HVB := Lib.hid ((HV.out.below hb7).snoc (hS6.below hal))
          have hq5 : wr.heap.size ≤ w5.heap.size := HW6.out.size
          have HAB := Lib.hid (HAp.out.snoc (v := .slice A6 M6.length k6) (fun g e he => by have h1 := hlo6 g e; have h2 := (HO.out.lt g he).2; omega))
          have HNW := Lib.hid (RowV.lit w6 [.slice A6 M6.length k6] 162)
          have HB7 := Lib.hid (HB.out.trans (hb7.mono HB.out.size))
          have hvl : vs.length ≤ 2000 := by rw [HV.out.1, gridTo_len]; exact HLN.out i j (by omega) (by omega)
          clear d6 hk6 hS6 hg6 hlo6 hq5 HAp hM6 hal hb7 hb6 HJ HW6 HV HO HB
          go_wp2_with (at_builtin; go_loud (refine wpList_appS (by rfl) _ _ (by rfl) w.heap.size _ vs.length vs _ 1 _ [.slice A6 M6.length k6] (by rfl) (by rfl) HOB.out rfl (fun e => by cases e) HNW.out.news (by intro u hu; simp only [List.mem_cons, List.not_mem_nil, or_false] at hu; subst hu; rfl) HB7.out.size (by omega) ?_))
          intro v8 w8 ho8 hg8 hb8 hm8 hr8
          have hr8 : gridTo H F i j ++ [M6] = gridTo H F i (j + 1) := by rw [gridTo_succ, HFij.out, HM6.out]
          have ho9 : OwnS w8 w.heap.size v8 (vs ++ [Value.slice A6 M6.length k6]).length (vs ++ [Value.slice A6 M6.length k6]) := by
            rw [List.length_append]; exact ho8
          have HO9 := Lib.hid ho9
          have hv9 := HVB.out.grown HAB.out hg8
          have hp9 := HAB.out.moved HVB.out (by
            intro S hS
            rw [hr8] at hS
            rcases gridTo_mem hS with ⟨a, b, ha, hb, rfl⟩ | ⟨b, hb, rfl⟩
            · exact HNE.out a b (by omega) hb
            · exact HNE.out i b hi1 (by omega)) hm8
          have HP9 := Lib.hid hp9
          have HV9 : Hid (StkR w8 (vs ++ [.slice A6 M6.length k6]) (gridTo H F i (j + 1))) := by show StkR _ _ _; rw [← hr8]; exact hv9
          have HB9 := Lib.hid (HB7.out.trans hb8)
          clear ho8 ho9 hg8 hb8 hm8 hr8 hv9 hp9 HAB HVB HOB HNW HB7
          go_wp2_with fail
          go_roundg g2
          case measure => omega
          case rel => exact ⟨j + 1, _, by omega, by go_num, by omega, HB9, HO9, HV9, HP9⟩
        · obtain rfl : j = H := by omega
          have HV9 : Hid (StkR wr vs (gridTo j F (i + 1) 0)) := by show StkR _ _ _; rw [← gridTo_row]; exact HV.out
          clear HV
          go_wp2_with fail
          go_roundg g1
          case measure => omega
          case rel => exact ⟨i + 1, vs, by omega, by go_num, by omega, HB, HO, HV9, HAp⟩
    · obtain rfl : i = R := by omega
      obtain ⟨A7, c7, rfl, hr7, hl7, hm7⟩ := own_formX HO.out
      have hk7 := H1.out.below HB.out hrl
      have f2 := hk7.frozen 2
      have r2 : wo.cell? ⟨r, 2, none⟩ = some (.slice A S.2.2.length c) := hk7.cell 2
      have hk8 := hk7.set_ 2 (.slice A7 vs.length c7)
      have q1 : (wo.setCell ⟨r, 2, none⟩ (.slice A7 vs.length c7)).cell? ⟨r, 1, none⟩ = some (.int .i64 S.2.1) := hk8.cell 1
      have q0 : (wo.setCell ⟨r, 2, none⟩ (.slice A7 vs.length c7)).cell? ⟨r, 0, none⟩ = some (.int .i64 S.1) := hk8.cell 0
      have f1 := hk8.frozen 1
      have HK7 := Lib.hid hk7
      clear hk7 hk8 hr7
      go_wp2_with fail
      go_end0
      have hrn : ∀ e, (Value.slice A7 vs.length c7).ownBlock = some e → e ≠ r := fun e he => by have := (HO.out.lt e he).1; omega
      have ho8 := HO.out.kept (grown_setX wo r 2 (.slice A7 vs.length c7)) (Or.inr fun e => hrn r e rfl)
      have ho9 := ho8.kept (grown_setX (wo.setCell ⟨r, 2, none⟩ (.slice A7 vs.length c7)) r 1 (.int .i64 H)) (Or.inr fun e => hrn r e rfl)
      have hv8 := HV.out.sheet (i := 2) (.slice A7 vs.length c7) HK7.out
      have hk8 : Blk (wo.setCell ⟨r, 2, none⟩ (.slice A7 vs.length c7)) r 187 #[.int .i64 S.1, .int .i64 S.2.1, .slice A7 vs.length c7] := by simpa using HK7.out.set_ 2 (.slice A7 vs.length c7)
      have hv9 := hv8.sheet (i := 1) (.int .i64 H) hk8
      have hk9 : Blk ((wo.setCell ⟨r, 2, none⟩ (.slice A7 vs.length c7)).setCell ⟨r, 1, none⟩ (.int .i64 H)) r 187 #[.int .i64 S.1, .int .i64 H, .slice A7 vs.length c7] := by simpa using hk8.set_ 1 (.int .i64 H)
      refine ⟨rfl, ?_, (grown_of_below HB.out).trans ((grown_setX _ r 2 _).trans (grown_setX _ r 1 _))⟩
      rw [HFin.out]
      have hvl := HV.out.1
      obtain ⟨A8, c8, e8, hr8, _, _⟩ := own_formX ho9
      cases e8
      refine ⟨⟨A7, c7, vs, ?_, hr8, hv9, ?_, hm7⟩, ?_⟩
      · show Blk _ r _ #[_, _, .slice A7 (gridTo H F i 0).length c7]
        rw [← hvl, HRR.out]; exact hk9
      · show (gridTo H F i 0).length ≤ c7
        rw [← hvl]; exact hl7
      · show (gridTo H F i 0).length = i * H
        rw [gridTo_len]; rfl
end Go.Proofs.YtkdlipbegdiaaaaGreatDoor
namespace Go.Proofs.YtkdlipbegdiaaaaGreatDoor
open Go.RowKit
set_option maxHeartbeats 4000000 in
set_option maxRecDepth 100000 in
theorem impl_foldHeight (r : Nat) (S : Sh) (first under : Bool) (H : Nat) (w : World) (h : ShM w r S) (hC : S.1 = 2 * H) (hr : S.1 ≤ 32) (hc : S.2.1 ≤ 32) (hs : ∀ x ∈ S.2.2, x.length ≤ 500 ∧ x ≠ []) :
    Calls Tryz.prog 176 #[ptr r, .bool first, .bool under] w fun e w' => e = .returned (.tuple #[]) ∧ ShM w' r (foldH S first under) ∧ w.grownBy w' (some r) := by
  obtain ⟨A, c, vs0, h1, h2, h3, h4, h5⟩ := h.ex
  have c0 : w.cell? ⟨r, 0, none⟩ = some (.int .i64 S.1) := h1.cell 0
  have c1 : w.cell? ⟨r, 1, none⟩ = some (.int .i64 S.2.1) := h1.cell 1
  have hrl := h1.lt
  have hlen := h.len
  obtain ⟨F, hF⟩ : ∃ F : Nat → Nat → List Cl, F = fun i j => putS (shAt S (stay i H first) j) (shAt S (moved i H first) j) true under := ⟨_, rfl⟩
  have HFin : Hid (foldH S first under = (H, S.2.1, gridTo S.2.1 F H 0)) := by
    show _ = _
    rw [gridTo_end, hF]
    unfold foldH
    have e2 : S.1 / 2 = H := by omega
    rw [e2]
  have HMem : Hid (∀ i j, i < S.1 → j < S.2.1 → (shAt S i j).length ≤ 500) := fun i j hi hj => (hs _ (shAt_mem hlen hi hj)).1
  have HNE : Hid (∀ i j, i < H → j < S.2.1 → F i j ≠ []) := by
    show ∀ i j, _
    intro i j hi hj
    rw [hF]
    exact putS_ne (hs _ (shAt_mem hlen (by rw [hC]; exact stay_lt first hi) hj)).2
  have HSH := Lib.hid h
  have H1 := Lib.hid h1
  obtain ⟨kq1, kq2⟩ := half2 hC
  obtain ⟨R, hR⟩ : ∃ R, R = S.1 := ⟨_, rfl⟩
  obtain ⟨C, hCC⟩ : ∃ C, C = S.2.1 := ⟨_, rfl⟩
  rw [← hR] at c0 hr HMem
  rw [← hCC] at c1 hc HMem HFin HNE
  rw [← hR] at hC kq1 kq2
  obtain ⟨N, hN⟩ : ∃ N, N = H * C := ⟨_, rfl⟩
  have hN4 : N ≤ 1024 := by rw [hN]; exact Nat.le_trans (Nat.mul_le_mul (by omega : H ≤ 32) (by omega : C ≤ 32)) (by omega)
  have HN := Lib.hid hN
  have HRR := Lib.hid hR
  have HCC := Lib.hid hCC
  have HFF := Lib.hid hF
  have kw : IntKind.i64.wrap ((H : Int) * (C : Int)) = (N : Int) := by
    have : (H : Int) * (C : Int) = (N : Int) := by rw [hN, Int.natCast_mul]
    rw [this]; exact IntWalk.i64_in _ (by omega)
  have HFL : Hid (∀ i j, i < R → j < C → i < R) := fun i j h _ => h
  obtain ⟨w1, hrun, ho1, hg1⟩ := run_makeS w w.heap.size N (by omega) (Nat.le_refl _)
  have HB1 := Lib.hid ((Below.refl w.heap.size w).grown hg1 (Nat.le_refl _) (by intro k hk; cases hk))
  have HO1 := Lib.hid ho1
  have HLN : Hid (∀ i j, i ≤ H → j ≤ C → i * C + j ≤ 2000) := by
    show ∀ i j, _
    intro i j hi hj
    have := Nat.mul_le_mul (show i ≤ 32 by omega) (show C ≤ 32 by omega)
    omega
  have HS1 : Hid (S.1 * S.2.1 ≤ 4000) := by
    show _ ≤ _
    rw [← hR, ← hCC]
    have := Nat.mul_le_mul hr hc
    omega
  have HC := Lib.hid hC
  clear ho1 hg1 hlen h1 h2 h3 h4 h5 h hs hF hN hR hCC hC
  go_enter Tryz.func176, Tryz.ntmps176
  go_wp2_with fail
  go_loopg [7, 8] (H + 1) (fun gg s7 s8 wr => ∃ (i : Nat) (vs : List Value), i ≤ H ∧ s8 = .int .i64 i ∧ H - i < gg ∧ Hid (Below w.heap.size w wr) ∧ Hid (OwnS wr w.heap.size s7 vs.length vs) ∧ Hid (StkR wr vs (gridTo C F i 0)) ∧ Hid (Apt s7 vs))
  case atStart => exact ⟨0, [], Nat.zero_le _, rfl, by omega, HB1, HO1, StkR.nil _, Apt.nil _⟩
  case round =>
    clear HB1 HO1 hrun
    obtain ⟨i, vs, hi, rfl, hg, HB, HO, HV, HP0⟩ := hrel
    cases gk with
    | zero => omega
    | succ g1 =>
    obtain ⟨wo, hwo⟩ : ∃ wo, wo = wr := ⟨_, rfl⟩
    subst hwo
    have r0 := (HB.out.cell (p := ⟨r, 0, none⟩) hrl).trans c0
    have r1 := (HB.out.cell (p := ⟨r, 1, none⟩) hrl).trans c1
    by_cases hlt : i < H
    · have hi1 : i < H := hlt
      have HP := Lib.hid (impl_foldedPlaces i H first wo hi1 (by omega))
      obtain ⟨p1, hp1⟩ : ∃ p, p = stay i H first := ⟨_, rfl⟩
      obtain ⟨p2, hp2⟩ : ∃ p, p = moved i H first := ⟨_, rfl⟩
      have hb1 : p1 < R := by rw [hp1, HC.out]; exact stay_lt first hi1
      have hb2 : p2 < R := by rw [hp2, HC.out]; exact moved_lt first hi1
      rw [← hp1, ← hp2] at HP
      have HPP := Lib.hid (And.intro hp1 hp2)
      clear hp1 hp2
      go_wp2_with fail
      refine HP.out.mono ?_
      rintro e _ ⟨rfl, rfl⟩
      obtain ⟨A7, c7, rfl, _, _, _⟩ := own_formX HO.out
      have HV0 := HV
      have HP1 := HP0
      have HO0 := HO
      clear HV HO HP0
      go_wp2_with fail
      go_loopg [7, 11] (C + 1) (fun gg s7 s9 wr => ∃ (j : Nat) (vs : List Value), j ≤ C ∧ s9 = .int .i64 j ∧ C - j < gg ∧ Hid (Below w.heap.size w wr) ∧ Hid (OwnS wr w.heap.size s7 vs.length vs) ∧ Hid (StkR wr vs (gridTo C F i j)) ∧ Hid (Apt s7 vs))
      case atStart => exact ⟨0, vs, Nat.zero_le _, rfl, by omega, HB, HO0, HV0, HP1⟩
      case round =>
        clear HB HO0 HV0 HP1 r0 r1
        obtain ⟨j, vs, hj, rfl, hg, HB, HO, HV, HAp⟩ := hrel
        cases gk with
        | zero => omega
        | succ g2 =>
        have r0 := (HB.out.cell (p := ⟨r, 0, none⟩) hrl).trans c0
        have r1 := (HB.out.cell (p := ⟨r, 1, none⟩) hrl).trans c1
        by_cases hjt : j < C
        · obtain ⟨A7, c7, rfl, _, _, _⟩ := own_formX HO.out
          have hsh := HSH.out.below HB.out
          have HW3 := Lib.hid (impl_stackAt r p1 j S wr hsh (by rw [← HRR.out]; exact hb1) (by rw [← HCC.out]; exact hjt) HS1.out)
          clear hsh
          go_wp2_with fail
          refine HW3.out.mono ?_
          rintro e w3 ⟨⟨v1, rfl, hS1⟩, hb3⟩
          obtain ⟨T1, hT1⟩ : ∃ T, T = shAt S p1 j := ⟨_, rfl⟩
          obtain ⟨T2, hT2⟩ : ∃ T, T = shAt S p2 j := ⟨_, rfl⟩
          have hl1 : T1.length ≤ 500 := by rw [hT1]; exact HMem.out _ _ hb1 hjt
          have hl2 : T2.length ≤ 500 := by rw [hT2]; exact HMem.out _ _ hb2 hjt
          have hFij : F i j = putS T1 T2 true under := by rw [HFF.out, hT1, hT2, HPP.out.1, HPP.out.2]
          have HFij := Lib.hid hFij
          have HT2 := Lib.hid hT2
          rw [← hT1] at hS1
          obtain ⟨A1, k1, rfl, hr1⟩ := sl_len hS1
          have hw4 : Below wr.heap.size wr (w3.alloc (.cells #[.slice A1 T1.length k1] 162)) := hb3.alloc hb3.size _
          have HW5 := Lib.hid (impl_stackAt r p2 j S (w3.alloc (.cells #[.slice A1 T1.length k1] 162)) ((HSH.out.below HB.out).below hw4) (by rw [← HRR.out]; exact hb2) (by rw [← HCC.out]; exact hjt) HS1.out)
          have hq3 : wr.heap.size ≤ w3.heap.size := hb3.size
          have HK4 := Lib.hid (Blk.new w3 162 #[.slice A1 T1.length k1])
          have HR1 := Lib.hid (hr1.alloc (.cells #[.slice A1 T1.length k1] 162))
          have HW4 := Lib.hid hw4
          clear hT1 hT2 hFij hS1 hr1 hw4 HW3 hb3
          go_wp2_with fail
          refine HW5.out.mono ?_
          rintro e w5 ⟨⟨v2, rfl, hS2⟩, hb5⟩
          rw [← HT2.out] at hS2
          obtain ⟨A2, k2, rfl, hr2⟩ := sl_len hS2
          have HJ := Lib.hid (impl_join_H w3.heap.size A1 A2 k1 k2 T1 T2 under w5 (HK4.out.below hb5 HK4.out.lt) (HR1.out.below hb5) hr2 (by omega) (by omega))
          have hw5 := HW4.out.trans (hb5.mono HW4.out.size)
          have HW6 := Lib.hid hw5
          clear hS2 hr2 hb5 HW5 HW4 HK4 HR1 hw5
          go_wp2_with fail
          refine HJ.out.mono ?_
          rintro e w6 ⟨rfl, ⟨v6, hk6, hS6, hlo6⟩, hg6⟩
          have hb6 : Below wr.heap.size wr w6 := HW6.out.grown hg6 HW6.out.size (fun g e => by cases e; exact hq3)
          obtain ⟨A6, k6, rfl, _⟩ := sl_len hS6
          have d6 := hk6.cell 0
          have d6' : w6.cell? ⟨w3.heap.size, 0, none⟩ = some (.slice A6 (putS T1 T2 true under).length k6) := d6
          obtain ⟨M6, hM6⟩ : ∃ M, M = putS T1 T2 true under := ⟨_, rfl⟩
          rw [← hM6] at d6' hS6 hlo6
          have HM6 := Lib.hid hM6
          have hal := (Below.refl w6.heap.size w6).alloc (Nat.le_refl _) (.cells #[.slice A6 M6.length k6] 162)
          have hb7 : Below wr.heap.size wr (w6.alloc (.cells #[.slice A6 M6.length k6] 162)) := hb6.alloc hb6.size _
          have HOB := Lib.hid (own_belowX HO.out hb7)
          have HVB := Lib.hid ((HV.out.below hb7).snoc (hS6.below hal))
          have hq5 : wr.heap.size ≤ w5.heap.size := HW6.out.size
          have HAB := Lib.hid (HAp.out.snoc (v := .slice A6 M6.length k6) (fun g e he => by have h1 := hlo6 g e; have h2 := (HO.out.lt g he).2; omega))
          have HNW := Lib.hid (RowV.lit w6 [.slice A6 M6.length k6] 162)
          have HB7 := Lib.hid (HB.out.trans (hb7.mono HB.out.size))
          have hvl : vs.length ≤ 2000 := by rw [HV.out.1, gridTo_len]; exact HLN.out i j (by omega) (by omega)
          clear d6 hk6 hS6 hg6 hlo6 hq5 HAp hM6 hal hb7 hb6 HJ HW6 HV HO HB
          go_wp2_with (at_builtin; go_loud (refine wpList_appS (by rfl) _ _ (by rfl) w.heap.size _ vs.length vs _ 1 _ [.slice A6 M6.length k6] (by rfl) (by rfl) HOB.out rfl (fun e => by cases e) HNW.out.news (by intro u hu; simp only [List.mem_cons, List.not_mem_nil, or_false] at hu; subst hu; rfl) HB7.out.size (by omega) ?_))
          intro v8 w8 ho8 hg8 hb8 hm8 hr8
          have hr8 : gridTo C F i j ++ [M6] = gridTo C F i (j + 1) := by rw [gridTo_succ, HFij.out, HM6.out]
          have ho9 : OwnS w8 w.heap.size v8 (vs ++ [Value.slice A6 M6.length k6]).length (vs ++ [Value.slice A6 M6.length k6]) := by
            rw [List.length_append]; exact ho8
          have HO9 := Lib.hid ho9
          have hv9 := HVB.out.grown HAB.out hg8
          have hp9 := HAB.out.moved HVB.out (by
            intro S hS
            rw [hr8] at hS
            rcases gridTo_mem hS with ⟨a, b, ha, hb, rfl⟩ | ⟨b, hb, rfl⟩
            · exact HNE.out a b (by omega) hb
            · exact HNE.out i b hi1 (by omega)) hm8
          have HP9 := Lib.hid hp9
          have HV9 : Hid (StkR w8 (vs ++ [.slice A6 M6.length k6]) (gridTo C F i (j + 1))) := by show StkR _ _ _; rw [← hr8]; exact hv9
          have HB9 := Lib.hid (HB7.out.trans hb8)
          clear ho8 ho9 hg8 hb8 hm8 hr8 hv9 hp9 HAB HVB HOB HNW HB7
          go_wp2_with fail
          go_roundg g2
          case measure => omega
          case rel => exact ⟨j + 1, _, by omega, by go_num, by omega, HB9, HO9, HV9, HP9⟩
        · obtain rfl : j = C := by omega
          have HV9 : Hid (StkR wr vs (gridTo j F (i + 1) 0)) := by show StkR _ _ _; rw [← gridTo_row]; exact HV.out
          clear HV
          go_wp2_with fail
          go_roundg g1
          case measure => omega
          case rel => exact ⟨i + 1, vs, by omega, by go_num, by omega, HB, HO, HV9, HAp⟩
    · obtain rfl : i = H := by omega
      obtain ⟨A7, c7, rfl, hr7, hl7, hm7⟩ := own_formX HO.out
      have hk7 := H1.out.below HB.out hrl
      have f2 := hk7.frozen 2
      have r2 : wo.cell? ⟨r, 2, none⟩ = some (.slice A S.2.2.length c) := hk7.cell 2
      have hk8 := hk7.set_ 2 (.slice A7 vs.length c7)
      have q1 : (wo.setCell ⟨r, 2, none⟩ (.slice A7 vs.length c7)).cell? ⟨r, 1, none⟩ = some (.int .i64 S.2.1) := hk8.cell 1
      have q0 : (wo.setCell ⟨r, 2, none⟩ (.slice A7 vs.length c7)).cell? ⟨r, 0, none⟩ = some (.int .i64 S.1) := hk8.cell 0
      have f1 := hk8.frozen 0
      have HK7 := Lib.hid hk7
      clear hk7 hk8 hr7
      go_wp2_with fail
      go_end0
      have hrn : ∀ e, (Value.slice A7 vs.length c7).ownBlock = some e → e ≠ r := fun e he => by have := (HO.out.lt e he).1; omega
      have ho8 := HO.out.kept (grown_setX wo r 2 (.slice A7 vs.length c7)) (Or.inr fun e => hrn r e rfl)
      have ho9 := ho8.kept (grown_setX (wo.setCell ⟨r, 2, none⟩ (.slice A7 vs.length c7)) r 0 (.int .i64 i)) (Or.inr fun e => hrn r e rfl)
      have hv8 := HV.out.sheet (i := 2) (.slice A7 vs.length c7) HK7.out
      have hk8 : Blk (wo.setCell ⟨r, 2, none⟩ (.slice A7 vs.length c7)) r 187 #[.int .i64 S.1, .int .i64 S.2.1, .slice A7 vs.length c7] := by simpa using HK7.out.set_ 2 (.slice A7 vs.length c7)
      have hv9 := hv8.sheet (i := 0) (.int .i64 i) hk8
      have hk9 : Blk ((wo.setCell ⟨r, 2, none⟩ (.slice A7 vs.length c7)).setCell ⟨r, 0, none⟩ (.int .i64 i)) r 187 #[.int .i64 i, .int .i64 S.2.1, .slice A7 vs.length c7] := by simpa using hk8.set_ 0 (.int .i64 i)
      refine ⟨rfl, ?_, (grown_of_below HB.out).trans ((grown_setX _ r 2 _).trans (grown_setX _ r 0 _))⟩
      rw [HFin.out]
      have hvl := HV.out.1
      obtain ⟨A8, c8, e8, hr8, _, _⟩ := own_formX ho9
      cases e8
      refine ⟨⟨A7, c7, vs, ?_, hr8, hv9, ?_, hm7⟩, ?_⟩
      · show Blk _ r _ #[_, _, .slice A7 (gridTo C F i 0).length c7]
        rw [← hvl, HCC.out]; exact hk9
      · show (gridTo C F i 0).length ≤ c7
        rw [← hvl]; exact hl7
      · show (gridTo C F i 0).length = i * C
        rw [gridTo_len]; rfl
end Go.Proofs.YtkdlipbegdiaaaaGreatDoor
