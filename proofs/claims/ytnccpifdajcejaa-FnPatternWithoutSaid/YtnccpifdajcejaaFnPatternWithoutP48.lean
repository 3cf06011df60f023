/- Draws of two patterns, and of a pattern and a vertex of it. No condition but sizes. The laws' own comparison of patterns: of two that read alike. No condition but sizes. Patterns with other numbers of creases: a vertex left out, two patterns joined. No program, no condition. -/
import Derived.Test.YtnccpifdajcejaaDrawQ
import Derived.Test.YtnccpifdajcejaaPushV
import Derived.Test.YtnccpifdajcejaaFnPatternWithoutP45
import Derived.Test.YtnccpifdajcejaaVert
import Derived.Test.YtnccpifdajcejaaPat
namespace Go.Proofs.Ytnccpifdajcejaa
open Go.RowKit

theorem pick20 {k : Nat} (h : k < 20 ∨ k = 0) : ∃ d : Nat, d ≤ 1 ∧ (k : Int).tdiv 19 = (d : Int) ∧ (k : Int) / 19 = (d : Int) := by
  refine ⟨k / 19, by omega, ?_, by omega⟩
  rw [Int.tdiv_eq_ediv_of_nonneg (by omega)]; omega
theorem pick16 {k : Nat} (h : k < 16 ∨ k = 0) : ∃ d : Nat, d ≤ 1 ∧ (k : Int).tdiv 15 = (d : Int) ∧ (k : Int) / 15 = (d : Int) := by
  refine ⟨k / 15, by omega, ?_, by omega⟩
  rw [Int.tdiv_eq_ediv_of_nonneg (by omega)]; omega
theorem results_tmp4 {fn : Func} {t u v x : Tmp} (h : fn.results = #[.tmp t, .tmp u, .tmp v, .tmp x]) (tmps : Array Value) (P : Program) (w : World) :
    (results fn tmps).run P w = .ok (.tuple #[tmps.getD t undef, tmps.getD u undef, tmps.getD v undef, tmps.getD x undef]) w := by
  simp [results, h]
macro "go_ret4" : tactic => `(tactic|
  ((try simp only [Exit.inBlock, Exit.then]); refine bodyPost_ret (results_tmp4 rfl _ _ _) rfl ?_))
/-- two drawn patterns and two numbers -/
def DrawnJ (w : World) (e : Ending) (w' : World) : Prop :=
  ∃ (B1 B2 : Option Addr) (us vs : List Vx) (c1 c2 : Nat) (i j : Int), e = .returned (.tuple #[.slice B1 us.length c1, .slice B2 vs.length c2, .int .i64 i, .int .i64 j]) ∧ Verts w' B1 us ∧ Verts w' B2 vs ∧
    us.length ≤ 2 ∧ vs.length ≤ 2 ∧ us.length ≤ c1 ∧ vs.length ≤ c2 ∧ c1 ≤ maxLen ∧ c2 ≤ maxLen ∧ (∀ v ∈ us, v.1.length ≤ 4 ∧ v.2.length ≤ 4) ∧ (∀ v ∈ vs, v.1.length ≤ 4 ∧ v.2.length ≤ 4) ∧ Below w.heap.size w w'
/-- a drawn pattern and a number -/
def DrawnW (w : World) (e : Ending) (w' : World) : Prop :=
  ∃ (B : Option Addr) (vs : List Vx) (c : Nat) (z : Int), e = .returned (.tuple #[.slice B vs.length c, .int .i64 z]) ∧ Verts w' B vs ∧ vs.length ≤ 2 ∧ vs.length ≤ c ∧ c ≤ maxLen ∧ (∀ v ∈ vs, v.1.length ≤ 4 ∧ v.2.length ≤ 4) ∧ Below w.heap.size w w'
/-- the first vertex -/
theorem VertsF.first {w : World} {H : Nat} {A : Option Addr} {vs : List Vx} (h : VertsF w H A vs) (m : Nat) : VertsF w H A (vs.take m) := by
  intro hn
  obtain ⟨b, off, e, hH, hb, hc⟩ := h (by intro e; rw [e] at hn; simp at hn)
  refine ⟨b, off, e, hH, hb, fun k v hk => ?_⟩
  rw [List.getElem?_take] at hk
  split at hk
  · exact hc k v hk
  · cases hk

set_option maxHeartbeats 1000000 in
theorem spec_DrawPatternWithout (w : World) (A : Option Addr) (cap : Nat) (bs : List UInt8) (h : Codes w w.heap.size A bs) (hl : bs.length ≤ 1048576) (hcap : bs.length ≤ cap) (hcm : cap ≤ maxLen) :
    Calls Try.prog 31 #[.slice A bs.length cap] w (DrawnW w) := by
  go_enter Try.func31, Try.ntmps31
  go_wp2_with fail
  refine (spec_l6Open w A cap bs h hl hcap hcm).mono ?_
  rintro e w1 ⟨bs', rfl, R1, hb1⟩
  have hr1 := R1.blk.lt
  go_wp2_with fail
  refine (spec_l92Pattern w1 w.heap.size A cap bs' 0 R1 (by omega)).mono ?_
  rintro e w2 ⟨B, vs, c, q, rfl, hV, h2, hc, hcm2, hlen, hq, R2, G2⟩
  have HL := Lib.hid hlen
  have b2 := below_of_grown hb1 G2 (Nat.le_refl _) hb1.size
  obtain ⟨m, hm, hm1, hm2⟩ : ∃ m : Nat, ((if (1 : Int) < (vs.length : Int) then (vs.length : Int) else 1) = (m : Int)) ∧ max (1 : Int) (vs.length : Int) = (m : Int) ∧ m ≤ 2 := by
    refine ⟨max 1 vs.length, ?_, ?_, ?_⟩ <;> omega
  clear hlen G2 hb1 R1
  go_wp2_with fail
  refine (spec_pick w2 w.heap.size A cap bs' q m R2 (by omega) (by omega)).mono ?_
  rintro e w5 ⟨k1, rfl, hk1, R5, G5⟩
  have b5 := below_of_grown b2 G5 (Nat.le_refl _) b2.size
  have va5 := hV.to (some w.heap.size) G5 (fun g e => by cases e; omega)
  clear G5 b2 hV R2
  go_wp2_with fail
  refine (spec_pick w5 w.heap.size A cap bs' _ 16 R5 (by omega) (by omega)).mono ?_
  rintro e w6 ⟨k2, rfl, hk2, R6, G6⟩
  have HB6 := Lib.hid (below_of_grown b5 G6 (Nat.le_refl _) b5.size)
  have HA6 := Lib.hid (va5.to (some w.heap.size) G6 (fun g e => by cases e; omega)).verts
  clear G6 b5 va5 R5 R6
  obtain ⟨d, hd1, hd2, hd3⟩ : ∃ d : Nat, d ≤ 1 ∧ (k2 : Int).tdiv 15 = (d : Int) ∧ (k2 : Int) / 15 = (d : Int) := pick16 hk2
  have kw : IntKind.i64.wrap ((k1 : Int) - (d : Int)) = (k1 : Int) - (d : Int) := IntWalk.i64_in _ (by omega)
  have kd : IntKind.i64.wrap (d : Int) = (d : Int) := IntWalk.i64_in _ (by omega)
  go_wp2_with fail
  go_ret2
  exact ⟨B, vs, c, _, rfl, HA6.out, h2, hc, hcm2, HL.out, HB6.out⟩

set_option maxHeartbeats 2000000 in
theorem spec_DrawPatternJoin (w : World) (A : Option Addr) (cap : Nat) (bs : List UInt8) (h : Codes w w.heap.size A bs) (hl : bs.length ≤ 1048576) (hcap : bs.length ≤ cap) (hcm : cap ≤ maxLen) :
    Calls Try.prog 20 #[.slice A bs.length cap] w (DrawnJ w) := by
  go_enter Try.func20, Try.ntmps20
  go_wp2_with fail
  refine (spec_l6Open w A cap bs h hl hcap hcm).mono ?_
  rintro e w1 ⟨bs', rfl, R1, hb1⟩
  have hr1 := R1.blk.lt
  go_wp2_with fail
  refine (spec_l92Pattern w1 w.heap.size A cap bs' 0 R1 (by omega)).mono ?_
  rintro e w2 ⟨B1, us, c1, q1, rfl, V1, h2, hc, hcm2, hlen, hq, R2, G2⟩
  have HL1 := Lib.hid hlen
  have b2 := below_of_grown hb1 G2 (Nat.le_refl _) hb1.size
  have hr2 := R2.blk.lt
  clear hlen G2 hb1 R1
  go_wp2_with fail
  refine (spec_l92Pattern w2 w.heap.size A cap bs' q1 R2 (by omega)).mono ?_
  rintro e w3 ⟨B2, vs, c2, q2, rfl, V2, h2b, hcb, hcm2b, hlenb, hqb, R3, G3⟩
  have HL2 := Lib.hid hlenb
  have b3 := below_of_grown b2 G3 (Nat.le_refl _) b2.size
  have va3 := V1.to (some w.heap.size) G3 (fun g e => by cases e; omega)
  clear hlenb G3 b2 R2 V1
  by_cases hg : 1 < vs.length
  · have d1 : decide ((1 : Int) < (vs.length : Int)) = true := by simp; omega
    obtain ⟨bv, ov, rfl, _, _, _⟩ := V2 (by intro e; rw [e] at hg; simp at hg)
    have z1 : (1 : Int) ≤ (c2 : Int) := by omega
    have z2 : (1 : Int) ≤ (vs.length : Int) := by omega
    go_wp2_with fail
    refine (spec_pick w3 w.heap.size A cap bs' q2 2 R3 (by omega) (by omega)).mono ?_
    rintro e w4 ⟨k0, rfl, hk0, R4, G4⟩
    have b4 := below_of_grown b3 G4 (Nat.le_refl _) b3.size
    have va4 := va3.to (some w.heap.size) G4 (fun g e => by cases e; omega)
    have vb4 := V2.to (some w.heap.size) G4 (fun g e => by cases e; omega)
    clear G4 b3 va3 V2 R3
    by_cases hk : k0 = 0
    · have e0 : ((k0 : Int) == 0) = true := by rw [beq_iff_eq]; omega
      have vf4 := vb4.first 1
      have hl1 : (vs.take 1).length = 1 := by rw [List.length_take]; omega
      have HLN := Lib.hid hl1
      clear hl1 hk vb4
      go_wp2_with fail
      refine (spec_pick w4 w.heap.size A cap bs' (q2 + 1) 6 R4 (by omega) (by omega)).mono ?_
      rintro e w5 ⟨k1, rfl, hk1, R5, G5⟩
      have b5 := below_of_grown b4 G5 (Nat.le_refl _) b4.size
      have va5 := va4.to (some w.heap.size) G5 (fun g e => by cases e; omega)
      have vb5 := vf4.to (some w.heap.size) G5 (fun g e => by cases e; omega)
      clear G5
      go_wp2_with fail
      refine (spec_pick w5 w.heap.size A cap bs' _ 20 R5 (by omega) (by omega)).mono ?_
      rintro e w6 ⟨k2, rfl, hk2, R6, G6⟩
      have b6 := below_of_grown b5 G6 (Nat.le_refl _) b5.size
      have va6 := va5.to (some w.heap.size) G6 (fun g e => by cases e; omega)
      have vb6 := vb5.to (some w.heap.size) G6 (fun g e => by cases e; omega)
      clear G6 b5 va5 vb5 R5
      obtain ⟨d, hd1, hd2, hd3⟩ : ∃ d : Nat, d ≤ 1 ∧ (k2 : Int).tdiv 19 = (d : Int) ∧ (k2 : Int) / 19 = (d : Int) := pick20 hk2
      have kw : IntKind.i64.wrap ((k1 : Int) - (d : Int)) = (k1 : Int) - (d : Int) := IntWalk.i64_in _ (by omega)
      have kd : IntKind.i64.wrap (d : Int) = (d : Int) := IntWalk.i64_in _ (by omega)
      go_wp2_with fail
      refine (spec_pick w6 w.heap.size A cap bs' _ 4 R6 (by omega) (by omega)).mono ?_
      rintro e w7 ⟨k3, rfl, hk3, R7, G7⟩
      have HB7 := Lib.hid (below_of_grown b6 G7 (Nat.le_refl _) b6.size)
      have HA7 := Lib.hid (va6.to (some w.heap.size) G7 (fun g e => by cases e; omega)).verts
      have HV7 := Lib.hid (vb6.to (some w.heap.size) G7 (fun g e => by cases e; omega)).verts
      clear G7 b6 va6 vb6 R6 R7
      go_wp2_with fail
      go_ret4
      exact ⟨B1, _, us, vs.take 1, c1, c2, (k1 : Int) - (d : Int), (k3 : Int), by rw [HLN.out]; rfl, HA7.out, HV7.out, h2, by rw [HLN.out]; omega, hc, by rw [HLN.out]; omega, hcm2, hcm2b, HL1.out, fun v hv => HL2.out v (List.mem_of_mem_take hv), HB7.out⟩
    · have e0 : ((k0 : Int) == 0) = false := by rw [beq_eq_false_iff_ne]; omega
      go_wp2_with fail
      refine (spec_pick w4 w.heap.size A cap bs' (q2 + 1) 6 R4 (by omega) (by omega)).mono ?_
      rintro e w5 ⟨k1, rfl, hk1, R5, G5⟩
      have b5 := below_of_grown b4 G5 (Nat.le_refl _) b4.size
      have va5 := va4.to (some w.heap.size) G5 (fun g e => by cases e; omega)
      have vb5 := vb4.to (some w.heap.size) G5 (fun g e => by cases e; omega)
      clear G5
      go_wp2_with fail
      refine (spec_pick w5 w.heap.size A cap bs' _ 20 R5 (by omega) (by omega)).mono ?_
      rintro e w6 ⟨k2, rfl, hk2, R6, G6⟩
      have b6 := below_of_grown b5 G6 (Nat.le_refl _) b5.size
      have va6 := va5.to (some w.heap.size) G6 (fun g e => by cases e; omega)
      have vb6 := vb5.to (some w.heap.size) G6 (fun g e => by cases e; omega)
      clear G6 b5 va5 vb5 R5
      obtain ⟨d, hd1, hd2, hd3⟩ : ∃ d : Nat, d ≤ 1 ∧ (k2 : Int).tdiv 19 = (d : Int) ∧ (k2 : Int) / 19 = (d : Int) := pick20 hk2
      have kw : IntKind.i64.wrap ((k1 : Int) - (d : Int)) = (k1 : Int) - (d : Int) := IntWalk.i64_in _ (by omega)
      have kd : IntKind.i64.wrap (d : Int) = (d : Int) := IntWalk.i64_in _ (by omega)
      go_wp2_with fail
      refine (spec_pick w6 w.heap.size A cap bs' _ 4 R6 (by omega) (by omega)).mono ?_
      rintro e w7 ⟨k3, rfl, hk3, R7, G7⟩
      have HB7 := Lib.hid (below_of_grown b6 G7 (Nat.le_refl _) b6.size)
      have HA7 := Lib.hid (va6.to (some w.heap.size) G7 (fun g e => by cases e; omega)).verts
      have HV7 := Lib.hid (vb6.to (some w.heap.size) G7 (fun g e => by cases e; omega)).verts
      clear G7 b6 va6 vb6 R6 R7
      go_wp2_with fail
      go_ret4
      exact ⟨B1, _, us, vs, c1, c2, _, _, rfl, HA7.out, HV7.out, h2, h2b, hc, hcb, hcm2, hcm2b, HL1.out, HL2.out, HB7.out⟩
  · have d1 : decide ((1 : Int) < (vs.length : Int)) = false := by simp; omega
    go_wp2_with fail
    refine (spec_pick w3 w.heap.size A cap bs' q2 6 R3 (by omega) (by omega)).mono ?_
    rintro e w5 ⟨k1, rfl, hk1, R5, G5⟩
    have b5 := below_of_grown b3 G5 (Nat.le_refl _) b3.size
    have va5 := va3.to (some w.heap.size) G5 (fun g e => by cases e; omega)
    have vb5 := V2.to (some w.heap.size) G5 (fun g e => by cases e; omega)
    clear G5
    go_wp2_with fail
    refine (spec_pick w5 w.heap.size A cap bs' _ 20 R5 (by omega) (by omega)).mono ?_
    rintro e w6 ⟨k2, rfl, hk2, R6, G6⟩
    have b6 := below_of_grown b5 G6 (Nat.le_refl _) b5.size
    have va6 := va5.to (some w.heap.size) G6 (fun g e => by cases e; omega)
    have vb6 := vb5.to (some w.heap.size) G6 (fun g e => by cases e; omega)
    clear G6 b5 va5 vb5 R5
    obtain ⟨d, hd1, hd2, hd3⟩ : ∃ d : Nat, d ≤ 1 ∧ (k2 : Int).tdiv 19 = (d : Int) ∧ (k2 : Int) / 19 = (d : Int) := pick20 hk2
    have kw : IntKind.i64.wrap ((k1 : Int) - (d : Int)) = (k1 : Int) - (d : Int) := IntWalk.i64_in _ (by omega)
    have kd : IntKind.i64.wrap (d : Int) = (d : Int) := IntWalk.i64_in _ (by omega)
    go_wp2_with fail
    refine (spec_pick w6 w.heap.size A cap bs' _ 4 R6 (by omega) (by omega)).mono ?_
    rintro e w7 ⟨k3, rfl, hk3, R7, G7⟩
    have HB7 := Lib.hid (below_of_grown b6 G7 (Nat.le_refl _) b6.size)
    have HA7 := Lib.hid (va6.to (some w.heap.size) G7 (fun g e => by cases e; omega)).verts
    have HV7 := Lib.hid (vb6.to (some w.heap.size) G7 (fun g e => by cases e; omega)).verts
    clear G7 b6 va6 vb6 R6 R7
    go_wp2_with fail
    go_ret4
    exact ⟨B1, _, us, vs, c1, c2, _, _, rfl, HA7.out, HV7.out, h2, h2b, hc, hcb, hcm2, hcm2b, HL1.out, HL2.out, HB7.out⟩
end Go.Proofs.Ytnccpifdajcejaa
namespace Go.Proofs.Ytnccpifdajcejaa
open Go.RowKit

/-- four cells hold -/
def Hold4 (a1 a2 a3 a4 : Addr) (v1 v2 v3 v4 : Value) (W : World) : Prop := W.cell? a1 = some v1 ∧ W.cell? a2 = some v2 ∧ W.cell? a3 = some v3 ∧ W.cell? a4 = some v4
theorem Hold4.below {a1 a2 a3 a4 : Addr} {v1 v2 v3 v4 : Value} {W W' : World} (h : Hold4 a1 a2 a3 a4 v1 v2 v3 v4 W) (hb : Below W.heap.size W W') : Hold4 a1 a2 a3 a4 v1 v2 v3 v4 W' :=
  ⟨(hb.cell (World.block_lt_of_cell? _ _ h.1)).trans h.1, (hb.cell (World.block_lt_of_cell? _ _ h.2.1)).trans h.2.1, (hb.cell (World.block_lt_of_cell? _ _ h.2.2.1)).trans h.2.2.1, (hb.cell (World.block_lt_of_cell? _ _ h.2.2.2)).trans h.2.2.2⟩
set_option maxHeartbeats 2000000 in
theorem laws_samePattern (A A' : Option Addr) (cap cap' : Nat) (vs : List Vx) (w : World) (h : Verts w A vs) (h' : Verts w A' vs) (hl : vs.length ≤ 1048576) :
    Calls Try.prog 23 #[.slice A vs.length cap, .slice A' vs.length cap'] w fun e w' => e = .returned (.bool true) ∧ Below w.heap.size w w' := by
  have dn : ((vs.length : Int) != (vs.length : Int)) = false := by simp
  go_enter Try.func23, Try.ntmps23
  go_wp2_with fail
  go_loopg [5] (vs.length + 1) (fun g s5 wr => ∃ (k : Nat), k ≤ vs.length ∧ s5 = .int .i64 k ∧ vs.length - k < g ∧ Hid (Below w.heap.size w wr))
  case atStart => exact ⟨0, Nat.zero_le _, rfl, by omega, Below.refl _ _⟩
  case round =>
    obtain ⟨k, hk, rfl, hg, HB⟩ := hrel
    cases gk with
    | zero => omega
    | succ g =>
    by_cases hlt : k < vs.length
    · obtain ⟨b, off, A1, c1, A2, c2, rfl, hb, r1, r2, i1, l1, m1, i2, l2, m2⟩ := (h.below HB.out).at_ hlt
      obtain ⟨b', off', A3, c3, A4, c4, rfl, hb', r3, r4, i3, l3, m3, i4, l4, m4⟩ := (h'.below HB.out).at_ hlt
      have k1 : (k : Int) < (vs.length : Int) := by omega
      have k0 : (0 : Int) ≤ (k : Int) := by omega
      have hS0 : Hold4 ⟨b, off + k * 2, none⟩ ⟨b, off + k * 2 + 1, none⟩ ⟨b', off' + k * 2, none⟩ ⟨b', off' + k * 2 + 1, none⟩ _ _ _ _ wr := ⟨r1, r2, r3, r4⟩
      have hc1 : ∀ W : World, Below wr.heap.size wr W → Calls Try.prog 27 #[.slice A1 vs[k].1.length c1, .slice A3 vs[k].1.length c3] W fun e w' => e = .returned (.bool true) ∧ Below W.heap.size W w' := fun W hW => by
        refine (laws_sameInts A1 A3 c1 c3 vs[k].1 vs[k].1 W (i1.below hW) (i3.below hW) (Nat.le_trans l1 m1) (Nat.le_trans l3 m3)).mono ?_
        rintro e w' ⟨rfl, m, rfl⟩
        rw [decide_eq_true rfl]
        exact ⟨rfl, below_drewN (Below.refl _ _) _⟩
      have hc2 : ∀ W : World, Below wr.heap.size wr W → Calls Try.prog 27 #[.slice A2 vs[k].2.length c2, .slice A4 vs[k].2.length c4] W fun e w' => e = .returned (.bool true) ∧ Below W.heap.size W w' := fun W hW => by
        refine (laws_sameInts A2 A4 c2 c4 vs[k].2 vs[k].2 W (i2.below hW) (i4.below hW) (Nat.le_trans l2 m2) (Nat.le_trans l4 m4)).mono ?_
        rintro e w' ⟨rfl, m, rfl⟩
        rw [decide_eq_true rfl]
        exact ⟨rfl, below_drewN (Below.refl _ _) _⟩
      have HC1 := Lib.hid hc1
      have HC2 := Lib.hid hc2
      have HS0 := Lib.hid hS0
      have hz := HB.out.size
      clear hc1 hc2 hS0 i1 i2 i3 i4
      go_wp2_with fail
      go_region_held3 (fun W => W.cell? ⟨b, off + k * 2, none⟩ = some (.slice A1 vs[k].1.length c1) ∧ W.cell? ⟨b, off + k * 2 + 1, none⟩ = some (.slice A2 vs[k].2.length c2) ∧ W.cell? ⟨b', off' + k * 2, none⟩ = some (.slice A3 vs[k].1.length c3) ∧ W.cell? ⟨b', off' + k * 2 + 1, none⟩ = some (.slice A4 vs[k].2.length c4)) (first | exact HS0.out | exact (Hold4.below HS0.out (below_from (below_drewN (Below.refl _ _) _) hbx (Nat.le_refl _))).below hby | exact Hold4.below HS0.out (below_from (below_drewN (Below.refl _ _) _) hbx (Nat.le_refl _)))
        (first
          | (have _hz := hbx.size; go_simp; go_at_call 27; refine (HC2.out _ (below_from (below_drewN (Below.refl _ _) _) hbx (Nat.le_refl _))).mono ?_; rintro e w4 ⟨rfl, hby⟩)
          | (go_simp; go_at_call 27; refine (HC1.out _ (below_drewN (Below.refl _ _) _)).mono ?_; rintro e w3 ⟨rfl, hbx⟩))
      have hb3 : Below wr.heap.size wr w3 := below_from (below_drewN (Below.refl _ _) _) hbx (Nat.le_refl _)
      have HB4 := Lib.hid (HB.out.trans ((below_from hb3 hby hb3.size).mono hz))
      clear hbx hby hb3
      go_wp2_with fail
      go_roundg g
      case measure => omega
      case rel => exact ⟨k + 1, by omega, by go_num, by omega, HB4⟩
    · obtain rfl : k = vs.length := by omega
      go_wp2_with fail
      go_ret
      exact ⟨rfl, HB.out⟩
end Go.Proofs.Ytnccpifdajcejaa
namespace Go.Proofs.Ytnccpifdajcejaa

/-- a vertex with other numbers -/
def renV (f : Nat → Int) (v : List Int × List Int) : List Int × List Int := (v.1, v.2.map fun c => f c.toNat)
theorem renV_congr {f g : Nat → Int} {v : List Int × List Int} (h : ∀ c ∈ v.2, f c.toNat = g c.toNat) : renV f v = renV g v := by
  unfold renV
  rw [List.map_congr_left h]
/-- of the first k creases those that are used -/
def numW (vs : List (List Int × List Int)) : Nat → Nat
  | 0 => 0
  | k + 1 => numW vs k + (if 0 < useN vs (k : Int) then 1 else 0)
theorem numW_le (vs : List (List Int × List Int)) (k : Nat) : numW vs k ≤ k := by
  induction k with
  | zero => simp [numW]
  | succ k ih => rw [numW]; split <;> omega
def withoutL (vs : List (List Int × List Int)) (k : Nat) : List (List Int × List Int) := (vs.eraseIdx k).map (renV fun c => (numW (vs.eraseIdx k) c : Int))
/-- the new numbers of the second pattern of two -/
def numJ (na i j : Int) (k : Nat) : Int := if (k : Int) = j then i else if (k : Int) < j then na + (k : Int) else na + (k : Int) - 1
def joinL (us vs : List (List Int × List Int)) (i j : Int) : List (List Int × List Int) := us ++ vs.map (renV (numJ (ncr us) i j))
/-- may two patterns be joined there -/
def joinB (us vs : List (List Int × List Int)) (i j : Int) : Bool := patB us && patB vs && decide (useN us i = 1) && decide (useN vs j = 1) && patB (joinL us vs i j)
def withoutB (vs : List (List Int × List Int)) (k : Int) : Bool := patB vs && decide (0 ≤ k) && decide (k < vs.length) && decide (vs.length ≠ 1)

theorem useN_erase {vs : List (List Int × List Int)} {k : Nat} (h : k < vs.length) (c : Int) : useN vs c = useN (vs.eraseIdx k) c + (if c ∈ vs[k].2 then 1 else 0) := by
  induction vs generalizing k with
  | nil => simp at h
  | cons v r ih =>
    cases k with
    | zero => simp [useN]; omega
    | succ k =>
      have hk : k < r.length := by simpa using h
      rw [List.eraseIdx_cons_succ, useN, useN, ih hk]
      simp only [List.getElem_cons_succ]
      omega
theorem useN_out {vs : List (List Int × List Int)} {c : Int} (h : c < 0 ∨ ncr vs ≤ c) (hv : ∀ v ∈ vs, ∀ x ∈ v.2, 0 ≤ x) : useN vs c = 0 := by
  rcases Nat.eq_zero_or_pos (useN vs c) with h0 | h0
  · exact h0
  · exfalso
    obtain ⟨v, hm, hc⟩ := useN_pos.1 h0
    have h1 := hv v hm c hc
    have h2 := (ncGo_le 0 vs).2 v hm c hc
    unfold ncr at h
    omega
theorem renV_id {v : List Int × List Int} (h : ∀ c ∈ v.2, 0 ≤ c) : renV (fun c => (c : Int)) v = v := by
  obtain ⟨x, y⟩ := v
  unfold renV
  congr 1
  have : y.map (fun c => ((c.toNat : Nat) : Int)) = y.map id := List.map_congr_left fun c hc => by have := h c hc; show ((c.toNat : Nat) : Int) = c; omega
  rw [this, List.map_id]
/-- the counts, some vertex's creases taken off -/
def decL (vs : List (List Int × List Int)) (cs : List Int) (n : Nat) : List Int := (List.range n).map fun (k : Nat) => (useN vs (k : Int) : Int) - (if (k : Int) ∈ cs then 1 else 0)
theorem decL_len (vs : List (List Int × List Int)) (cs : List Int) (n : Nat) : (decL vs cs n).length = n := by simp [decL]
theorem decL_nil (vs : List (List Int × List Int)) (n : Nat) : decL vs [] n = usesL vs n := by simp [decL, usesL]
theorem decL_all {vs : List (List Int × List Int)} {k : Nat} (h : k < vs.length) (n : Nat) : decL vs vs[k].2 n = usesL (vs.eraseIdx k) n := by
  unfold decL usesL
  refine List.map_congr_left fun j _ => ?_
  have := useN_erase h (j : Int)
  split <;> simp_all
theorem decL_get {vs : List (List Int × List Int)} {cs : List Int} {n m : Nat} (hm : m < n) (h : (m : Int) ∉ cs) : (decL vs cs n)[m]? = some (useN vs (m : Int) : Int) := by
  simp [decL, hm, h]
theorem decL_set {vs : List (List Int × List Int)} {cs : List Int} {n m j : Nat} (hj : j < cs.length) (hc : cs[j] = (m : Int)) (hn : cs.Nodup) :
    (m : Int) ∉ cs.take j ∧ (decL vs (cs.take j) n).set m ((useN vs (m : Int) : Int) - 1) = decL vs (cs.take (j + 1)) n := by
  have hnot : (m : Int) ∉ cs.take j := by
    intro hin
    obtain ⟨i, hi, e⟩ := List.getElem_of_mem hin
    have hij : i < j := by simpa using (by rw [List.length_take] at hi; omega : i < j)
    rw [List.getElem_take] at e
    have hne := (List.nodup_iff_pairwise_ne.1 hn)
    have := List.pairwise_iff_getElem.1 hne i j (by omega) hj hij
    exact this (by rw [e, hc])
  refine ⟨hnot, ?_⟩
  apply List.ext_getElem?
  intro k
  rw [List.getElem?_set]
  by_cases hk : k < n
  · by_cases e : m = k
    · subst e
      rw [if_pos rfl, decL_len, if_pos hk]
      simp only [decL, List.getElem?_map, List.getElem?_range hk, Option.map_some]
      rw [if_pos]
      rw [List.take_succ_eq_append_getElem hj, hc]; simp
    · rw [if_neg e]
      simp only [decL, List.getElem?_map, List.getElem?_range hk, Option.map_some]
      congr 2
      rw [List.take_succ_eq_append_getElem hj, hc]
      have : ¬ (k : Int) = (m : Int) := by omega
      simp [this]
  · rw [List.getElem?_eq_none (by rw [decL_len]; omega), List.getElem?_eq_none (by rw [decL_len]; omega)]
    split
    · rw [decL_len, if_neg (by omega)]
    · rfl
/-- the new numbers of the first j creases -/
def numL (vs : List (List Int × List Int)) (n j : Nat) : List Int := (List.range n).map fun (k : Nat) => if k < j ∧ 0 < useN vs (k : Int) then (numW vs k : Int) else 0
theorem numL_len (vs : List (List Int × List Int)) (n j : Nat) : (numL vs n j).length = n := by simp [numL]
theorem numL_zero (vs : List (List Int × List Int)) (n : Nat) : numL vs n 0 = List.replicate n 0 := by
  apply List.ext_getElem?
  intro k
  by_cases hk : k < n <;> simp [numL, hk]
theorem numL_yes {vs : List (List Int × List Int)} {n j : Nat} (h : 0 < useN vs (j : Int)) : (numL vs n j).set j (numW vs j : Int) = numL vs n (j + 1) := by
  apply List.ext_getElem?
  intro k
  rw [List.getElem?_set]
  by_cases hk : k < n
  · by_cases e : j = k
    · subst e
      rw [if_pos rfl, numL_len, if_pos hk]
      simp [numL, hk, h]
    · rw [if_neg e]
      simp only [numL, List.getElem?_map, List.getElem?_range hk, Option.map_some]
      congr 1
      have : (k < j ∧ 0 < useN vs (k : Int)) ↔ (k < j + 1 ∧ 0 < useN vs (k : Int)) := by constructor <;> rintro ⟨h1, h2⟩ <;> exact ⟨by omega, h2⟩
      by_cases q : k < j ∧ 0 < useN vs (k : Int)
      · rw [if_pos q, if_pos (this.1 q)]
      · rw [if_neg q, if_neg (fun x => q (this.2 x))]
  · rw [List.getElem?_eq_none (by rw [numL_len]; omega), List.getElem?_eq_none (by rw [numL_len]; omega)]
    split
    · rw [numL_len, if_neg (by omega)]
    · rfl
theorem numL_no {vs : List (List Int × List Int)} {n j : Nat} (h : ¬ 0 < useN vs (j : Int)) : numL vs n j = numL vs n (j + 1) := by
  unfold numL
  refine List.map_congr_left fun k _ => ?_
  have : (k < j ∧ 0 < useN vs (k : Int)) ↔ (k < j + 1 ∧ 0 < useN vs (k : Int)) := by
    constructor
    · rintro ⟨h1, h2⟩; exact ⟨by omega, h2⟩
    · rintro ⟨h1, h2⟩
      refine ⟨?_, h2⟩
      rcases Nat.lt_or_ge k j with h3 | h3
      · exact h3
      · have : k = j := by omega
        subst this; exact absurd h2 h
  by_cases q : k < j ∧ 0 < useN vs (k : Int)
  · rw [if_pos q, if_pos (this.1 q)]
  · rw [if_neg q, if_neg (fun x => q (this.2 x))]
theorem numL_get {vs : List (List Int × List Int)} {n c : Nat} (hc : c < n) (h : 0 < useN vs (c : Int)) : (numL vs n n)[c]? = some (numW vs c : Int) := by simp [numL, hc, h]
/-- what is left of a pattern, or nothing -/
def woR (vs : List (List Int × List Int)) (k : Int) : List (List Int × List Int) := if withoutB vs k then withoutL vs k.toNat else []
theorem withoutL_len {vs : List (List Int × List Int)} {k : Nat} (h : k < vs.length) : (withoutL vs k).length = vs.length - 1 := by
  unfold withoutL; rw [List.length_map, List.length_eraseIdx, if_pos h]
/-- how many are done behind k rounds -/
def doneN (at_ k : Nat) : Nat := if at_ < k then k - 1 else k
theorem withoutL_get {vs : List (List Int × List Int)} {at_ k : Nat} (h : k < vs.length) (hne : k ≠ at_) : (withoutL vs at_)[doneN at_ k]? = some (renV (fun c => (numW (vs.eraseIdx at_) c : Int)) vs[k]) := by
  unfold withoutL doneN
  rw [List.getElem?_map, List.getElem?_eraseIdx]
  by_cases q : at_ < k
  · rw [if_pos q, if_neg (by omega), show k - 1 + 1 = k from by omega, List.getElem?_eq_getElem h]; rfl
  · rw [if_neg q, if_pos (by omega), List.getElem?_eq_getElem h]; rfl
theorem erase_mem {vs : List (List Int × List Int)} {at_ k : Nat} (h : k < vs.length) (hne : k ≠ at_) : vs[k] ∈ vs.eraseIdx at_ := by
  have : (vs.eraseIdx at_)[doneN at_ k]? = some vs[k] := by
    unfold doneN
    rw [List.getElem?_eraseIdx]
    by_cases q : at_ < k
    · rw [if_pos q, if_neg (by omega), show k - 1 + 1 = k from by omega, List.getElem?_eq_getElem h]
    · rw [if_neg q, if_pos (by omega), List.getElem?_eq_getElem h]
  exact List.mem_of_getElem? this
/-- the new numbers of all creases, used or not -/
def wNum (vs : List (List Int × List Int)) (j : Nat) : List Int := (List.range j).map fun (k : Nat) => (numW vs k : Int)
theorem wNum_len (vs : List (List Int × List Int)) (j : Nat) : (wNum vs j).length = j := by simp [wNum]
theorem wNum_succ (vs : List (List Int × List Int)) (j : Nat) : wNum vs (j + 1) = wNum vs j ++ [(numW vs j : Int)] := by simp [wNum, List.range_succ]
theorem wNum_get {vs : List (List Int × List Int)} {j c : Nat} (h : c < j) : (wNum vs j)[c]? = some (numW vs c : Int) := by simp [wNum, h]
/-- the first t of n numbers filled in -/
def fillTo (f : Nat → Int) (n t : Nat) : List Int := (List.range n).map fun (k : Nat) => if k < t then f k else 0
theorem fillTo_len (f : Nat → Int) (n t : Nat) : (fillTo f n t).length = n := by simp [fillTo]
theorem fillTo_zero (f : Nat → Int) (n : Nat) : fillTo f n 0 = List.replicate n 0 := by
  apply List.ext_getElem?
  intro k
  by_cases hk : k < n <;> simp [fillTo, hk]
theorem fillTo_set (f : Nat → Int) {n t : Nat} : (fillTo f n t).set t (f t) = fillTo f n (t + 1) := by
  apply List.ext_getElem?
  intro k
  rw [List.getElem?_set]
  by_cases hk : k < n
  · by_cases e : t = k
    · subst e
      rw [if_pos rfl, fillTo_len, if_pos hk]
      simp [fillTo, hk]
    · rw [if_neg e]
      simp only [fillTo, List.getElem?_map, List.getElem?_range hk, Option.map_some]
      congr 1
      by_cases q : k < t
      · rw [if_pos q, if_pos (by omega)]
      · rw [if_neg q, if_neg (by omega)]
  · rw [List.getElem?_eq_none (by rw [fillTo_len]; omega), List.getElem?_eq_none (by rw [fillTo_len]; omega)]
    split
    · rw [fillTo_len, if_neg (by omega)]
    · rfl
theorem fillTo_get {f : Nat → Int} {n c : Nat} (h : c < n) : (fillTo f n n)[c]? = some (f c) := by simp [fillTo, h]
/-- two patterns joined, or nothing -/
def jR (us vs : List (List Int × List Int)) (i j : Int) : List (List Int × List Int) := if joinB us vs i j then joinL us vs i j else []
theorem joinL_len (us vs : List (List Int × List Int)) (i j : Int) : (joinL us vs i j).length = us.length + vs.length := by simp [joinL]
theorem joinL_left {us vs : List (List Int × List Int)} {i j : Int} {k : Nat} (h : k < us.length) : (joinL us vs i j)[k]? = some us[k] := by
  unfold joinL; rw [List.getElem?_append_left h, List.getElem?_eq_getElem h]
theorem joinL_right {us vs : List (List Int × List Int)} {i j : Int} {k : Nat} (h : k < vs.length) : (joinL us vs i j)[us.length + k]? = some (renV (numJ (ncr us) i j) vs[k]) := by
  unfold joinL
  rw [List.getElem?_append_right (by omega), List.getElem?_map, show us.length + k - us.length = k from by omega, List.getElem?_eq_getElem h]; rfl
theorem joinB_no {us vs : List (List Int × List Int)} {i j : Int} (h : patB us = false ∨ patB vs = false ∨ useN us i ≠ 1 ∨ useN vs j ≠ 1) : joinB us vs i j = false := by
  unfold joinB
  rcases h with h | h | h | h
  · rw [h]; rfl
  · rw [h, Bool.and_false]; rfl
  · rw [decide_eq_false h]; simp
  · rw [decide_eq_false h]; simp
theorem joinB_yes {us vs : List (List Int × List Int)} {i j : Int} (h1 : patB us = true) (h2 : patB vs = true) (h3 : useN us i = 1) (h4 : useN vs j = 1) : joinB us vs i j = patB (joinL us vs i j) := by
  unfold joinB
  rw [h1, h2, decide_eq_true h3, decide_eq_true h4]; rfl
/-- the number that comes next -/
def nxJ (na j : Int) (k : Nat) : Int := if j < (k : Int) then na + (k : Int) - 1 else na + (k : Int)
theorem nxJ_at {na j : Int} {k : Nat} (h : (k : Int) = j) : nxJ na j (k + 1) = nxJ na j k := by unfold nxJ; split <;> split <;> omega
theorem nxJ_no {na i j : Int} {k : Nat} (h : ¬ (k : Int) = j) : nxJ na j (k + 1) = nxJ na j k + 1 ∧ numJ na i j k = nxJ na j k := by
  unfold nxJ numJ
  rw [if_neg h]
  constructor
  · split <;> split <;> omega
  · split <;> split <;> omega
theorem numJ_at {na i j : Int} {k : Nat} (h : (k : Int) = j) : numJ na i j k = i := by unfold numJ; rw [if_pos h]
/-- the new numbers of the second pattern's creases -/
def jNum (na i j : Int) (n : Nat) : List Int := (List.range n).map (numJ na i j)
theorem jNum_len (na i j : Int) (n : Nat) : (jNum na i j n).length = n := by simp [jNum]
theorem jNum_succ (na i j : Int) (n : Nat) : jNum na i j (n + 1) = jNum na i j n ++ [numJ na i j n] := by simp [jNum, List.range_succ]
theorem jNum_get {na i j : Int} {n c : Nat} (h : c < n) : (jNum na i j n)[c]? = some (numJ na i j c) := by simp [jNum, h]
end Go.Proofs.Ytnccpifdajcejaa
