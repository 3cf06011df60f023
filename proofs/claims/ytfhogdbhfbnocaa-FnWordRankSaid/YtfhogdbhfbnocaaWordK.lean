/- A drawn number of folds and a rank. No condition but sizes. -/
import Derived.Test.YtfhogdbhfbnocaaWordI
import Derived.Test.YtfhogdbhfbnocaaRegInv
namespace Go.Proofs.Ytfhogdbhfbnocaa
open Go.RowKit

/-- one of a region's values put in -/
def updV (U : Nat → Value) (i : Nat) (v : Value) : Nat → Value := fun k => if k = i then v else U k
/-- the frame of the region with two small tables -/
def mkN (s : Value) (H : Nat) (n : Int) (U : Nat → Value) : Act :=
  { tmps := #[s, undef, U 11, U 12, ptr H, .int .i64 n, s, ptr H, ptr H, .int .i64 n, ptr H, .int .i64 0, .bool true, U 0, U 1, U 2, U 3, U 4, U 5, U 6, U 7, U 8, U 9, U 10, undef, undef, undef, undef, undef], defers := [] }
/-- a table of three numbers from -1 to m, apart from block H -/
def Tab (H : Nat) (m : Int) (v : Value) (W : World) : Prop := ∃ g, v = .slice (some ⟨g, 0, none⟩) 3 3 ∧ g ≠ H ∧ g < W.heap.size ∧ ∀ k, k < 3 → ∃ x : Int, W.cell? ⟨g, k, none⟩ = some (.int .i64 x) ∧ -1 ≤ x ∧ x ≤ m
def Adr (H : Nat) (m : Int) (v : Value) (W : World) : Prop := ∃ g k, v = .pointer (some ⟨g, k, none⟩) ∧ g ≠ H ∧ g < W.heap.size ∧ ∃ x : Int, W.cell? ⟨g, k, none⟩ = some (.int .i64 x) ∧ -1 ≤ x ∧ x ≤ m
def Num (m : Int) (v : Value) : Prop := ∃ x : Int, v = .int .i64 x ∧ -1 ≤ x ∧ x ≤ m
/-- what is known of each value of the region -/
def FN (H : Nat) (n : Int) (i : Nat) (v : Value) (W : World) : Prop :=
  match i with
  | 0 => v = .int .i64 n
  | 1 => Tab H 7 v W
  | 2 => v = ptr H
  | 3 => ∃ k : Nat, k < 3 ∧ v = .int .i64 k
  | 4 => Adr H 7 v W
  | 5 => Num 7 v
  | 6 => Tab H 64 v W
  | 7 => v = ptr H
  | 8 => ∃ k : Nat, k < 3 ∧ v = .int .i64 k
  | 9 => Adr H 64 v W
  | 10 => Num 64 v
  | 11 => Num 7 v
  | 12 => Num 64 v
  | _ => True
theorem Tab.more {H : Nat} {m : Int} {v : Value} {W W' : World} (h : Tab H m v W) (hg : W.grownBy W' (some H)) : Tab H m v W' := by
  obtain ⟨g, e, hne, hlt, hc⟩ := h
  refine ⟨g, e, hne, Nat.lt_of_lt_of_le hlt hg.size, fun k hk => ?_⟩
  obtain ⟨x, hx, h1⟩ := hc k hk
  exact ⟨x, (hg.cell_far ⟨g, k, none⟩ hlt (fun q => hne (Option.some.inj q))).trans hx, h1⟩
theorem Adr.more {H : Nat} {m : Int} {v : Value} {W W' : World} (h : Adr H m v W) (hg : W.grownBy W' (some H)) : Adr H m v W' := by
  obtain ⟨g, k, e, hne, hlt, x, hx, h1⟩ := h
  exact ⟨g, k, e, hne, Nat.lt_of_lt_of_le hlt hg.size, x, (hg.cell_far ⟨g, k, none⟩ hlt (fun q => hne (Option.some.inj q))).trans hx, h1⟩
theorem FN.more {H : Nat} {n : Int} {i : Nat} {v : Value} {W W' : World} (h : FN H n i v W) (hg : W.grownBy W' (some H)) : FN H n i v W' := by
  unfold FN at h ⊢
  split at h <;> first | exact h | exact Tab.more h hg | exact Adr.more h hg
/-- the invariant -/
structure JN (s : Value) (H : Nat) (n : Int) (A : Option Addr) (cap : Nat) (bs : List UInt8) (w3 : World) (L : Nat → Bool) (b : Act) (W : World) : Prop where
  ex : ∃ U, b = mkN s H n U ∧ (∀ i, i < 13 → L i = true → FN H n i (U i) W) ∧ (∃ q, Rd W H A cap bs q ∧ q ≤ 2 + (if L 3 = true then 1 else 0) + (if L 8 = true then 1 else 0)) ∧ w3.grownBy W (some H)
theorem JN.to {s : Value} {H : Nat} {n : Int} {A : Option Addr} {cap : Nat} {bs : List UInt8} {w3 : World} {L : Nat → Bool} {b b' : Act} {W : World} (e : b = b') (h : JN s H n A cap bs w3 L b W) : JN s H n A cap bs w3 L b' W := e ▸ h
theorem JN.next {s : Value} {H : Nat} {n : Int} {A : Option Addr} {cap : Nat} {bs : List UInt8} {w3 : World} {L : Nat → Bool} {U : Nat → Value} {W W' : World} (i : Nat) (v : Value)
    (hF : ∀ i, i < 13 → L i = true → FN H n i (U i) W) (hw3 : w3.grownBy W (some H)) (hg : W.grownBy W' (some H)) (hv : FN H n i v W')
    (hR : ∃ q, Rd W' H A cap bs q ∧ q ≤ 2 + (if (3 == i || L 3) = true then 1 else 0) + (if (8 == i || L 8) = true then 1 else 0)) :
    JN s H n A cap bs w3 (fun k => k == i || L k) (mkN s H n (updV U i v)) W' := by
  refine ⟨updV U i v, rfl, fun k hk hl => ?_, hR, hw3.trans hg⟩
  unfold updV
  by_cases e : k = i
  · subst e; rw [if_pos rfl]; exact hv
  · rw [if_neg e]
    have : L k = true := by
      simp only [Bool.or_eq_true, beq_iff_eq] at hl
      rcases hl with q | q
      · exact absurd q e
      · exact q
    exact (hF k hk this).more hg
theorem rd_stay {W W' : World} {H : Nat} {A : Option Addr} {cap : Nat} {bs : List UInt8} {L : Nat → Bool} {i : Nat} (h : ∃ q, Rd W H A cap bs q ∧ q ≤ 2 + (if L 3 = true then 1 else 0) + (if L 8 = true then 1 else 0)) (hr : ∀ q, Rd W H A cap bs q → Rd W' H A cap bs q) :
    ∃ q, Rd W' H A cap bs q ∧ q ≤ 2 + (if (3 == i || L 3) = true then 1 else 0) + (if (8 == i || L 8) = true then 1 else 0) := by
  obtain ⟨q, h1, h2⟩ := h
  refine ⟨q, hr q h1, Nat.le_trans h2 ?_⟩
  have a : (if L 3 = true then 1 else 0) ≤ (if (3 == i || L 3) = true then 1 else 0 : Nat) := by
    cases L 3 <;> simp
  have b : (if L 8 = true then 1 else 0) ≤ (if (8 == i || L 8) = true then 1 else 0 : Nat) := by
    cases L 8 <;> simp
  omega
theorem rd_pick {W' : World} {H : Nat} {A : Option Addr} {cap : Nat} {bs : List UInt8} {L : Nat → Bool} {i q : Nat} (hi : i = 3 ∨ i = 8) (hn : L i = false) (hq : q ≤ 2 + (if L 3 = true then 1 else 0) + (if L 8 = true then 1 else 0)) (h : Rd W' H A cap bs (q + 1)) :
    ∃ q, Rd W' H A cap bs q ∧ q ≤ 2 + (if (3 == i || L 3) = true then 1 else 0) + (if (8 == i || L 8) = true then 1 else 0) := by
  refine ⟨q + 1, h, ?_⟩
  rcases hi with rfl | rfl
  · rw [hn] at hq
    simp at hq ⊢
    omega
  · rw [hn] at hq
    simp at hq ⊢
    omega
theorem tab_new {W : World} {H : Nat} {m x0 x1 x2 : Int} (hH : H < W.heap.size) (h0 : -1 ≤ x0 ∧ x0 ≤ m) (h1 : -1 ≤ x1 ∧ x1 ≤ m) (h2 : -1 ≤ x2 ∧ x2 ≤ m) (ty : TypeId) :
    Tab H m (.slice (some ⟨W.heap.size, 0, none⟩) 3 3) (W.alloc (.cells #[.int .i64 x0, .int .i64 x1, .int .i64 x2] ty)) := by
  refine ⟨W.heap.size, rfl, by omega, by simp, fun k hk => ?_⟩
  have hc := (Blk.new W ty #[.int .i64 x0, .int .i64 x1, .int .i64 x2]).cell k
  match k, hk with
  | 0, _ => exact ⟨x0, hc, h0⟩
  | 1, _ => exact ⟨x1, hc, h1⟩
  | 2, _ => exact ⟨x2, hc, h2⟩
set_option maxHeartbeats 2000000 in
set_option maxRecDepth 100000 in
theorem spec_DrawWordNth (w : World) (A : Option Addr) (cap : Nat) (bs : List UInt8) (h : Codes w w.heap.size A bs) (hl : bs.length ≤ 1048576) (hcap : bs.length ≤ cap) (hcm : cap ≤ maxLen) :
    Calls Try.prog 11 #[.slice A bs.length cap] w fun e w' => ∃ n z : Int, e = .returned (.tuple #[.int .i64 n, .int .i64 z]) ∧ -1 ≤ n ∧ n ≤ 7 ∧ -1 ≤ z ∧ z ≤ 64 ∧ Below w.heap.size w w' := by
  go_enter Try.func11, Try.ntmps11
  go_wp2_with fail
  refine (spec_l6Open w A cap bs h hl hcap hcm).mono ?_
  rintro e w1 ⟨bs', rfl, R1, hb1⟩
  go_wp2_with fail
  refine (spec_pick w1 w.heap.size A cap bs' 0 6 R1 (by omega) (by omega)).mono ?_
  rintro e w2 ⟨n, rfl, hn, R2, G2⟩
  have HB2 := Lib.hid (below_of_grown hb1 G2 (Nat.le_refl _) hb1.size)
  have hn5 : n ≤ 5 := by omega
  clear hb1 G2 R1 hn
  go_wp2_with fail
  refine (spec_pick w2 w.heap.size A cap bs' 1 10 R2 (by omega) (by omega)).mono ?_
  rintro e w3 ⟨c, rfl, _, R3, G3⟩
  have HB3 := Lib.hid (below_of_grown HB2.out G3 (Nat.le_refl _) HB2.out.size)
  clear HB2 G3 R2
  by_cases hc : c = 0
  · subst hc
    go_wp2_with fail
    refine wp_region_inv (by kernel_rfl) (by repeat (first | exact AllOps.nil | refine AllOps.cons (by decide) ?_)) (JN (.slice A bs.length cap) w.heap.size (n : Int) A cap bs' w3) ?h0 ?hs ?he
    case h0 =>
      exact ⟨fun k => if k = 11 then .int .i64 0 else if k = 12 then .int .i64 0 else undef, rfl, fun i hi hq => by simp at hq; omega, ⟨2, ⟨R3.blk, R3.codes, R3.len⟩, by simp⟩, ⟨rfl, rfl, rfl, Nat.le_refl _, fun _ _ _ => rfl⟩⟩
    case hs =>
      refine AllOps.cons (fun L b W hJ hi hd K hK => ?_) ?_
      · obtain ⟨U, rfl, hF, hR, hG⟩ := hJ.ex
        have hH : w.heap.size < W.heap.size := by obtain ⟨q, hq, _⟩ := hR; exact hq.blk.lt
        unfold mkN
        go_simp
        refine hK.out _ _ ?_
        exact JN.next 0 (.int .i64 n) hF hG (World.grownBy.refl _ _) rfl (rd_stay hR fun _ h => h)
      refine AllOps.cons (fun L b W hJ hi hd K hK => ?_) ?_
      · obtain ⟨U, rfl, hF, hR, hG⟩ := hJ.ex
        have hH : w.heap.size < W.heap.size := by obtain ⟨q, hq, _⟩ := hR; exact hq.blk.lt
        have e0 : U 0 = .int .i64 (n : Int) := hF 0 (by omega) (hd ⟨0, .data⟩ (by simp) rfl)
        unfold mkN
        rw [e0]
        go_simp
        refine hK.out _ _ ?_
        refine JN.to ?_ (JN.next 1 (.slice (some ⟨W.heap.size, 0, none⟩) 3 3) hF hG (World.grownBy_alloc W _ _) (tab_new (m := 7) (x0 := -1) (x1 := 7) (x2 := (n : Int)) hH (by omega) (by omega) (by omega) _) (rd_stay hR fun _ h => h.far' _))
        unfold mkN updV
        simp [e0]
      refine AllOps.cons (fun L b W hJ hi hd K hK => ?_) ?_
      · obtain ⟨U, rfl, hF, hR, hG⟩ := hJ.ex
        have hH : w.heap.size < W.heap.size := by obtain ⟨q, hq, _⟩ := hR; exact hq.blk.lt
        unfold mkN
        go_simp
        refine hK.out _ _ ?_
        exact JN.next 2 (ptr w.heap.size) hF hG (World.grownBy.refl _ _) rfl (rd_stay hR fun _ h => h)
      refine AllOps.cons (fun L b W hJ hi hd K hK => ?_) ?_
      · obtain ⟨U, rfl, hF, hR, hG⟩ := hJ.ex
        have hH : w.heap.size < W.heap.size := by obtain ⟨q, hq, _⟩ := hR; exact hq.blk.lt
        have e2 : U 2 = ptr w.heap.size := hF 2 (by omega) (hd ⟨2, .data⟩ (by simp) rfl)
        unfold mkN
        rw [e2]
        obtain ⟨q, hq1, hq2⟩ := hR
        have c3 : (if L 3 = true then 1 else 0 : Nat) ≤ 1 := by split <;> omega
        have c8 : (if L 8 = true then 1 else 0 : Nat) ≤ 1 := by split <;> omega
        go_simp
        go_at_call 26
        refine (spec_pick W w.heap.size A cap bs' q 3 hq1 (by omega) (by omega)).mono ?_
        rintro e W' ⟨k, rfl, hk, R', G'⟩
        clear c3 c8
        go_wp2_with fail
        refine hK.out _ _ ?_
        refine JN.to ?_ (JN.next 3 (.int .i64 k) hF hG G' ⟨k, by omega, rfl⟩ (rd_pick (Or.inl rfl) hi hq2 R'))
        unfold mkN updV
        simp [e2]
      refine AllOps.cons (fun L b W hJ hi hd K hK => ?_) ?_
      · obtain ⟨U, rfl, hF, hR, hG⟩ := hJ.ex
        have hH : w.heap.size < W.heap.size := by obtain ⟨q, hq, _⟩ := hR; exact hq.blk.lt
        obtain ⟨g, e1, hne, hlt, hc⟩ := (hF 1 (by omega) (hd ⟨1, .data⟩ (by simp) rfl) : Tab w.heap.size 7 (U 1) W)
        obtain ⟨k, hk, e3⟩ := (hF 3 (by omega) (hd ⟨3, .data⟩ (by simp) rfl) : ∃ k : Nat, k < 3 ∧ U 3 = .int .i64 k)
        have k1 : (k : Int) < 3 := by omega
        have k0 : (0 : Int) ≤ (k : Int) := by omega
        unfold mkN
        rw [e1, e3]
        go_simp
        refine hK.out _ _ ?_
        refine JN.to ?_ (JN.next 4 (.pointer (some ⟨g, k, none⟩)) hF hG (World.grownBy.refl _ _) ⟨g, k, rfl, hne, hlt, hc k hk⟩ (rd_stay hR fun _ h => h))
        unfold mkN updV
        simp [e1, e3]
      refine AllOps.cons (fun L b W hJ hi hd K hK => ?_) ?_
      · obtain ⟨U, rfl, hF, hR, hG⟩ := hJ.ex
        have hH : w.heap.size < W.heap.size := by obtain ⟨q, hq, _⟩ := hR; exact hq.blk.lt
        obtain ⟨g, k, e4, hne, hlt, x, hx, hxb⟩ := (hF 4 (by omega) (hd ⟨4, .data⟩ (by simp) rfl) : Adr w.heap.size 7 (U 4) W)
        unfold mkN
        rw [e4]
        go_simp
        refine hK.out _ _ ?_
        refine JN.to ?_ (JN.next 5 (.int .i64 x) hF hG (World.grownBy.refl _ _) ⟨x, rfl, hxb⟩ (rd_stay hR fun _ h => h))
        unfold mkN updV
        simp [e4]
      refine AllOps.cons (fun L b W hJ hi hd K hK => ?_) ?_
      · obtain ⟨U, rfl, hF, hR, hG⟩ := hJ.ex
        have hH : w.heap.size < W.heap.size := by obtain ⟨q, hq, _⟩ := hR; exact hq.blk.lt
        unfold mkN
        go_simp
        refine hK.out _ _ ?_
        exact JN.next 6 (.slice (some ⟨W.heap.size, 0, none⟩) 3 3) hF hG (World.grownBy_alloc W _ _) (tab_new (m := 64) (x0 := -1) (x1 := 64) (x2 := 0) hH (by omega) (by omega) (by omega) _) (rd_stay hR fun _ h => h.far' _)
      refine AllOps.cons (fun L b W hJ hi hd K hK => ?_) ?_
      · obtain ⟨U, rfl, hF, hR, hG⟩ := hJ.ex
        have hH : w.heap.size < W.heap.size := by obtain ⟨q, hq, _⟩ := hR; exact hq.blk.lt
        unfold mkN
        go_simp
        refine hK.out _ _ ?_
        exact JN.next 7 (ptr w.heap.size) hF hG (World.grownBy.refl _ _) rfl (rd_stay hR fun _ h => h)
      refine AllOps.cons (fun L b W hJ hi hd K hK => ?_) ?_
      · obtain ⟨U, rfl, hF, hR, hG⟩ := hJ.ex
        have hH : w.heap.size < W.heap.size := by obtain ⟨q, hq, _⟩ := hR; exact hq.blk.lt
        have e2 : U 7 = ptr w.heap.size := hF 7 (by omega) (hd ⟨7, .data⟩ (by simp) rfl)
        unfold mkN
        rw [e2]
        obtain ⟨q, hq1, hq2⟩ := hR
        have c3 : (if L 3 = true then 1 else 0 : Nat) ≤ 1 := by split <;> omega
        have c8 : (if L 8 = true then 1 else 0 : Nat) ≤ 1 := by split <;> omega
        go_simp
        go_at_call 26
        refine (spec_pick W w.heap.size A cap bs' q 3 hq1 (by omega) (by omega)).mono ?_
        rintro e W' ⟨k, rfl, hk, R', G'⟩
        clear c3 c8
        go_wp2_with fail
        refine hK.out _ _ ?_
        refine JN.to ?_ (JN.next 8 (.int .i64 k) hF hG G' ⟨k, by omega, rfl⟩ (rd_pick (Or.inr rfl) hi hq2 R'))
        unfold mkN updV
        simp [e2]
      refine AllOps.cons (fun L b W hJ hi hd K hK => ?_) ?_
      · obtain ⟨U, rfl, hF, hR, hG⟩ := hJ.ex
        have hH : w.heap.size < W.heap.size := by obtain ⟨q, hq, _⟩ := hR; exact hq.blk.lt
        obtain ⟨g, e1, hne, hlt, hc⟩ := (hF 6 (by omega) (hd ⟨6, .data⟩ (by simp) rfl) : Tab w.heap.size 64 (U 6) W)
        obtain ⟨k, hk, e3⟩ := (hF 8 (by omega) (hd ⟨8, .data⟩ (by simp) rfl) : ∃ k : Nat, k < 3 ∧ U 8 = .int .i64 k)
        have k1 : (k : Int) < 3 := by omega
        have k0 : (0 : Int) ≤ (k : Int) := by omega
        unfold mkN
        rw [e1, e3]
        go_simp
        refine hK.out _ _ ?_
        refine JN.to ?_ (JN.next 9 (.pointer (some ⟨g, k, none⟩)) hF hG (World.grownBy.refl _ _) ⟨g, k, rfl, hne, hlt, hc k hk⟩ (rd_stay hR fun _ h => h))
        unfold mkN updV
        simp [e1, e3]
      refine AllOps.cons (fun L b W hJ hi hd K hK => ?_) ?_
      · obtain ⟨U, rfl, hF, hR, hG⟩ := hJ.ex
        have hH : w.heap.size < W.heap.size := by obtain ⟨q, hq, _⟩ := hR; exact hq.blk.lt
        obtain ⟨g, k, e4, hne, hlt, x, hx, hxb⟩ := (hF 9 (by omega) (hd ⟨9, .data⟩ (by simp) rfl) : Adr w.heap.size 64 (U 9) W)
        unfold mkN
        rw [e4]
        go_simp
        refine hK.out _ _ ?_
        refine JN.to ?_ (JN.next 10 (.int .i64 x) hF hG (World.grownBy.refl _ _) ⟨x, rfl, hxb⟩ (rd_stay hR fun _ h => h))
        unfold mkN updV
        simp [e4]
      refine AllOps.cons (fun L b W hJ hi hd K hK => ?_) ?_
      · obtain ⟨U, rfl, hF, hR, hG⟩ := hJ.ex
        have hH : w.heap.size < W.heap.size := by obtain ⟨q, hq, _⟩ := hR; exact hq.blk.lt
        obtain ⟨x, e5, hxb⟩ := (hF 5 (by omega) (hd ⟨5, .data⟩ (by simp) rfl) : Num 7 (U 5))
        unfold mkN
        rw [e5]
        go_simp
        refine hK.out _ _ ?_
        refine JN.to ?_ (JN.next 11 (.int .i64 x) hF hG (World.grownBy.refl _ _) ⟨x, rfl, hxb⟩ (rd_stay hR fun _ h => h))
        unfold mkN updV
        simp [e5]
      refine AllOps.cons (fun L b W hJ hi hd K hK => ?_) ?_
      · obtain ⟨U, rfl, hF, hR, hG⟩ := hJ.ex
        have hH : w.heap.size < W.heap.size := by obtain ⟨q, hq, _⟩ := hR; exact hq.blk.lt
        obtain ⟨x, e5, hxb⟩ := (hF 10 (by omega) (hd ⟨10, .data⟩ (by simp) rfl) : Num 64 (U 10))
        unfold mkN
        rw [e5]
        go_simp
        refine hK.out _ _ ?_
        refine JN.to ?_ (JN.next 12 (.int .i64 x) hF hG (World.grownBy.refl _ _) ⟨x, rfl, hxb⟩ (rd_stay hR fun _ h => h))
        unfold mkN updV
        simp [e5]
      exact AllOps.nil
    case he =>
      intro L b W hJ hall
      obtain ⟨U, rfl, hF, hR, hG⟩ := hJ.ex
      obtain ⟨x, ex, hx1, hx2⟩ := (hF 11 (by omega) (hall 11 (by decide)) : Num 7 (U 11))
      obtain ⟨y, ey, hy1, hy2⟩ := (hF 12 (by omega) (hall 12 (by decide)) : Num 64 (U 12))
      have HBW := Lib.hid (below_of_grown HB3.out hG (Nat.le_refl _) HB3.out.size)
      unfold mkN
      rw [ex, ey]
      clear hJ hall hF hR hG
      go_wp2_with fail
      go_ret2
      exact ⟨x, y, rfl, hx1, hx2, hy1, hy2, HBW.out⟩
  · have d0 : ((c : Int) == 0) = false := by rw [beq_eq_false_iff_ne]; omega
    have hp : 2 ^ n ≤ 32 := Nat.le_trans (Nat.pow_le_pow_right (by omega) hn5) (by decide)
    obtain ⟨P, hP⟩ : ∃ P, P = 2 ^ n := ⟨_, rfl⟩
    have hpw : ∀ W : World, Calls Try.prog 27 #[.int .i64 n] W fun e w' => e = .returned (.int .i64 (P : Int)) ∧ W = w' := fun W => by rw [hP]; exact spec_l1Power n W (by omega)
    rw [← hP] at hp
    have HPW := Lib.hid hpw
    clear hc hP hpw
    go_wp2_with fail
    refine (HPW.out w3).mono ?_
    rintro e _ ⟨rfl, rfl⟩
    go_wp2_with fail
    refine (spec_pick w3 w.heap.size A cap bs' 2 P R3 (by omega) (by omega)).mono ?_
    rintro e w4 ⟨k, rfl, hk, R4, G4⟩
    have HB4 := Lib.hid (below_of_grown HB3.out G4 (Nat.le_refl _) HB3.out.size)
    clear HB3 G4 R4 R3
    go_wp2_with fail
    go_ret2
    exact ⟨(n : Int), (k : Int), rfl, by omega, by omega, by omega, by omega, HB4.out⟩
end Go.Proofs.Ytfhogdbhfbnocaa
