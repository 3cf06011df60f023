/- Draws of two patterns, and of a pattern and a vertex of it. No condition but sizes. -/
import Derived.Test.YtnccpifdajcejaaDrawQ
import Derived.Test.YtnccpifdajcejaaPushV
namespace Go.Proofs.Ytnccpifdajcejaa
open Go.RowKit

theorem pick20 {k : Nat} (h : k < 20 ∨ k = 0) : ∃ d : Nat, d ≤ 1 ∧ (k : Int).tdiv 19 = (d : Int) ∧ (k : Int) / 19 = (d : Int) := by
  refine ⟨k / 19, by omega, ?_, by omega⟩
  rw [Int.tdiv_eq_ediv_of_nonneg (by omega)]; omega
theorem pick16 {k : Nat} (h : k < 16 ∨ k = 0) : ∃ d : Nat, d ≤ 1 ∧ (k : Int).tdiv 15 = (d : Int) ∧ (k : Int) / 15 = (d : Int) := by
  refine ⟨k / 15, by omega, ?_, by omega⟩
  rw [Int.tdiv_eq_ediv_of_nonneg (by omega)]; omega
theorem results_tmp4 {fn : Func} {t u v x : Tmp} (h : fn.results = #[.tmp t, .tmp u, .tmp v, .tmp x]) (tmps : Array Value) (P : Program) (w : World) :
    (results fn tmps).run P w = .ok (.tuple #[tmps.getD t undef, tmps.getD u undef, tmps.getD v undef, tmps.getD x undef]) w := by
  simp [results, h]
macro "go_ret4" : tactic => `(tactic|
  ((try simp only [Exit.inBlock, Exit.then]); refine bodyPost_ret (results_tmp4 rfl _ _ _) rfl ?_))
/-- two drawn patterns and two numbers -/
def DrawnJ (w : World) (e : Ending) (w' : World) : Prop :=
  ∃ (B1 B2 : Option Addr) (us vs : List Vx) (c1 c2 : Nat) (i j : Int), e = .returned (.tuple #[.slice B1 us.length c1, .slice B2 vs.length c2, .int .i64 i, .int .i64 j]) ∧ Verts w' B1 us ∧ Verts w' B2 vs ∧
    us.length ≤ 2 ∧ vs.length ≤ 2 ∧ us.length ≤ c1 ∧ vs.length ≤ c2 ∧ c1 ≤ maxLen ∧ c2 ≤ maxLen ∧ (∀ v ∈ us, v.1.length ≤ 4 ∧ v.2.length ≤ 4) ∧ (∀ v ∈ vs, v.1.length ≤ 4 ∧ v.2.length ≤ 4) ∧ Below w.heap.size w w'
/-- a drawn pattern and a number -/
def DrawnW (w : World) (e : Ending) (w' : World) : Prop :=
  ∃ (B : Option Addr) (vs : List Vx) (c : Nat) (z : Int), e = .returned (.tuple #[.slice B vs.length c, .int .i64 z]) ∧ Verts w' B vs ∧ vs.length ≤ 2 ∧ vs.length ≤ c ∧ c ≤ maxLen ∧ (∀ v ∈ vs, v.1.length ≤ 4 ∧ v.2.length ≤ 4) ∧ Below w.heap.size w w'
/-- the first vertex -/
theorem VertsF.first {w : World} {H : Nat} {A : Option Addr} {vs : List Vx} (h : VertsF w H A vs) (m : Nat) : VertsF w H A (vs.take m) := by
  intro hn
  obtain ⟨b, off, e, hH, hb, hc⟩ := h (by intro e; rw [e] at hn; simp at hn)
  refine ⟨b, off, e, hH, hb, fun k v hk => ?_⟩
  rw [List.getElem?_take] at hk
  split at hk
  · exact hc k v hk
  · cases hk

set_option maxHeartbeats 1000000 in
theorem spec_DrawPatternWithout (w : World) (A : Option Addr) (cap : Nat) (bs : List UInt8) (h : Codes w w.heap.size A bs) (hl : bs.length ≤ 1048576) (hcap : bs.length ≤ cap) (hcm : cap ≤ maxLen) :
    Calls Try.prog 31 #[.slice A bs.length cap] w (DrawnW w) := by
  go_enter Try.func31, Try.ntmps31
  go_wp2_with fail
  refine (spec_l6Open w A cap bs h hl hcap hcm).mono ?_
  rintro e w1 ⟨bs', rfl, R1, hb1⟩
  have hr1 := R1.blk.lt
  go_wp2_with fail
  refine (spec_l92Pattern w1 w.heap.size A cap bs' 0 R1 (by omega)).mono ?_
  rintro e w2 ⟨B, vs, c, q, rfl, hV, h2, hc, hcm2, hlen, hq, R2, G2⟩
  have HL := Lib.hid hlen
  have b2 := below_of_grown hb1 G2 (Nat.le_refl _) hb1.size
  obtain ⟨m, hm, hm1, hm2⟩ : ∃ m : Nat, ((if (1 : Int) < (vs.length : Int) then (vs.length : Int) else 1) = (m : Int)) ∧ max (1 : Int) (vs.length : Int) = (m : Int) ∧ m ≤ 2 := by
    refine ⟨max 1 vs.length, ?_, ?_, ?_⟩ <;> omega
  clear hlen G2 hb1 R1
  go_wp2_with fail
  refine (spec_pick w2 w.heap.size A cap bs' q m R2 (by omega) (by omega)).mono ?_
  rintro e w5 ⟨k1, rfl, hk1, R5, G5⟩
  have b5 := below_of_grown b2 G5 (Nat.le_refl _) b2.size
  have va5 := hV.to (some w.heap.size) G5 (fun g e => by cases e; omega)
  clear G5 b2 hV R2
  go_wp2_with fail
  refine (spec_pick w5 w.heap.size A cap bs' _ 16 R5 (by omega) (by omega)).mono ?_
  rintro e w6 ⟨k2, rfl, hk2, R6, G6⟩
  have HB6 := Lib.hid (below_of_grown b5 G6 (Nat.le_refl _) b5.size)
  have HA6 := Lib.hid (va5.to (some w.heap.size) G6 (fun g e => by cases e; omega)).verts
  clear G6 b5 va5 R5 R6
  obtain ⟨d, hd1, hd2, hd3⟩ : ∃ d : Nat, d ≤ 1 ∧ (k2 : Int).tdiv 15 = (d : Int) ∧ (k2 : Int) / 15 = (d : Int) := pick16 hk2
  have kw : IntKind.i64.wrap ((k1 : Int) - (d : Int)) = (k1 : Int) - (d : Int) := IntWalk.i64_in _ (by omega)
  have kd : IntKind.i64.wrap (d : Int) = (d : Int) := IntWalk.i64_in _ (by omega)
  go_wp2_with fail
  go_ret2
  exact ⟨B, vs, c, _, rfl, HA6.out, h2, hc, hcm2, HL.out, HB6.out⟩

set_option maxHeartbeats 2000000 in
theorem spec_DrawPatternJoin (w : World) (A : Option Addr) (cap : Nat) (bs : List UInt8) (h : Codes w w.heap.size A bs) (hl : bs.length ≤ 1048576) (hcap : bs.length ≤ cap) (hcm : cap ≤ maxLen) :
    Calls Try.prog 20 #[.slice A bs.length cap] w (DrawnJ w) := by
  go_enter Try.func20, Try.ntmps20
  go_wp2_with fail
  refine (spec_l6Open w A cap bs h hl hcap hcm).mono ?_
  rintro e w1 ⟨bs', rfl, R1, hb1⟩
  have hr1 := R1.blk.lt
  go_wp2_with fail
  refine (spec_l92Pattern w1 w.heap.size A cap bs' 0 R1 (by omega)).mono ?_
  rintro e w2 ⟨B1, us, c1, q1, rfl, V1, h2, hc, hcm2, hlen, hq, R2, G2⟩
  have HL1 := Lib.hid hlen
  have b2 := below_of_grown hb1 G2 (Nat.le_refl _) hb1.size
  have hr2 := R2.blk.lt
  clear hlen G2 hb1 R1
  go_wp2_with fail
  refine (spec_l92Pattern w2 w.heap.size A cap bs' q1 R2 (by omega)).mono ?_
  rintro e w3 ⟨B2, vs, c2, q2, rfl, V2, h2b, hcb, hcm2b, hlenb, hqb, R3, G3⟩
  have HL2 := Lib.hid hlenb
  have b3 := below_of_grown b2 G3 (Nat.le_refl _) b2.size
  have va3 := V1.to (some w.heap.size) G3 (fun g e => by cases e; omega)
  clear hlenb G3 b2 R2 V1
  by_cases hg : 1 < vs.length
  · have d1 : decide ((1 : Int) < (vs.length : Int)) = true := by simp; omega
    obtain ⟨bv, ov, rfl, _, _, _⟩ := V2 (by intro e; rw [e] at hg; simp at hg)
    have z1 : (1 : Int) ≤ (c2 : Int) := by omega
    have z2 : (1 : Int) ≤ (vs.length : Int) := by omega
    go_wp2_with fail
    refine (spec_pick w3 w.heap.size A cap bs' q2 2 R3 (by omega) (by omega)).mono ?_
    rintro e w4 ⟨k0, rfl, hk0, R4, G4⟩
    have b4 := below_of_grown b3 G4 (Nat.le_refl _) b3.size
    have va4 := va3.to (some w.heap.size) G4 (fun g e => by cases e; omega)
    have vb4 := V2.to (some w.heap.size) G4 (fun g e => by cases e; omega)
    clear G4 b3 va3 V2 R3
    by_cases hk : k0 = 0
    · have e0 : ((k0 : Int) == 0) = true := by rw [beq_iff_eq]; omega
      have vf4 := vb4.first 1
      have hl1 : (vs.take 1).length = 1 := by rw [List.length_take]; omega
      have HLN := Lib.hid hl1
      clear hl1 hk vb4
      go_wp2_with fail
      refine (spec_pick w4 w.heap.size A cap bs' (q2 + 1) 6 R4 (by omega) (by omega)).mono ?_
      rintro e w5 ⟨k1, rfl, hk1, R5, G5⟩
      have b5 := below_of_grown b4 G5 (Nat.le_refl _) b4.size
      have va5 := va4.to (some w.heap.size) G5 (fun g e => by cases e; omega)
      have vb5 := vf4.to (some w.heap.size) G5 (fun g e => by cases e; omega)
      clear G5
      go_wp2_with fail
      refine (spec_pick w5 w.heap.size A cap bs' _ 20 R5 (by omega) (by omega)).mono ?_
      rintro e w6 ⟨k2, rfl, hk2, R6, G6⟩
      have b6 := below_of_grown b5 G6 (Nat.le_refl _) b5.size
      have va6 := va5.to (some w.heap.size) G6 (fun g e => by cases e; omega)
      have vb6 := vb5.to (some w.heap.size) G6 (fun g e => by cases e; omega)
      clear G6 b5 va5 vb5 R5
      obtain ⟨d, hd1, hd2, hd3⟩ : ∃ d : Nat, d ≤ 1 ∧ (k2 : Int).tdiv 19 = (d : Int) ∧ (k2 : Int) / 19 = (d : Int) := pick20 hk2
      have kw : IntKind.i64.wrap ((k1 : Int) - (d : Int)) = (k1 : Int) - (d : Int) := IntWalk.i64_in _ (by omega)
      have kd : IntKind.i64.wrap (d : Int) = (d : Int) := IntWalk.i64_in _ (by omega)
      go_wp2_with fail
      refine (spec_pick w6 w.heap.size A cap bs' _ 4 R6 (by omega) (by omega)).mono ?_
      rintro e w7 ⟨k3, rfl, hk3, R7, G7⟩
      have HB7 := Lib.hid (below_of_grown b6 G7 (Nat.le_refl _) b6.size)
      have HA7 := Lib.hid (va6.to (some w.heap.size) G7 (fun g e => by cases e; omega)).verts
      have HV7 := Lib.hid (vb6.to (some w.heap.size) G7 (fun g e => by cases e; omega)).verts
      clear G7 b6 va6 vb6 R6 R7
      go_wp2_with fail
      go_ret4
      exact ⟨B1, _, us, vs.take 1, c1, c2, (k1 : Int) - (d : Int), (k3 : Int), by rw [HLN.out]; rfl, HA7.out, HV7.out, h2, by rw [HLN.out]; omega, hc, by rw [HLN.out]; omega, hcm2, hcm2b, HL1.out, fun v hv => HL2.out v (List.mem_of_mem_take hv), HB7.out⟩
    · have e0 : ((k0 : Int) == 0) = false := by rw [beq_eq_false_iff_ne]; omega
      go_wp2_with fail
      refine (spec_pick w4 w.heap.size A cap bs' (q2 + 1) 6 R4 (by omega) (by omega)).mono ?_
      rintro e w5 ⟨k1, rfl, hk1, R5, G5⟩
      have b5 := below_of_grown b4 G5 (Nat.le_refl _) b4.size
      have va5 := va4.to (some w.heap.size) G5 (fun g e => by cases e; omega)
      have vb5 := vb4.to (some w.heap.size) G5 (fun g e => by cases e; omega)
      clear G5
      go_wp2_with fail
      refine (spec_pick w5 w.heap.size A cap bs' _ 20 R5 (by omega) (by omega)).mono ?_
      rintro e w6 ⟨k2, rfl, hk2, R6, G6⟩
      have b6 := below_of_grown b5 G6 (Nat.le_refl _) b5.size
      have va6 := va5.to (some w.heap.size) G6 (fun g e => by cases e; omega)
      have vb6 := vb5.to (some w.heap.size) G6 (fun g e => by cases e; omega)
      clear G6 b5 va5 vb5 R5
      obtain ⟨d, hd1, hd2, hd3⟩ : ∃ d : Nat, d ≤ 1 ∧ (k2 : Int).tdiv 19 = (d : Int) ∧ (k2 : Int) / 19 = (d : Int) := pick20 hk2
      have kw : IntKind.i64.wrap ((k1 : Int) - (d : Int)) = (k1 : Int) - (d : Int) := IntWalk.i64_in _ (by omega)
      have kd : IntKind.i64.wrap (d : Int) = (d : Int) := IntWalk.i64_in _ (by omega)
      go_wp2_with fail
      refine (spec_pick w6 w.heap.size A cap bs' _ 4 R6 (by omega) (by omega)).mono ?_
      rintro e w7 ⟨k3, rfl, hk3, R7, G7⟩
      have HB7 := Lib.hid (below_of_grown b6 G7 (Nat.le_refl _) b6.size)
      have HA7 := Lib.hid (va6.to (some w.heap.size) G7 (fun g e => by cases e; omega)).verts
      have HV7 := Lib.hid (vb6.to (some w.heap.size) G7 (fun g e => by cases e; omega)).verts
      clear G7 b6 va6 vb6 R6 R7
      go_wp2_with fail
      go_ret4
      exact ⟨B1, _, us, vs, c1, c2, _, _, rfl, HA7.out, HV7.out, h2, h2b, hc, hcb, hcm2, hcm2b, HL1.out, HL2.out, HB7.out⟩
  · have d1 : decide ((1 : Int) < (vs.length : Int)) = false := by simp; omega
    go_wp2_with fail
    refine (spec_pick w3 w.heap.size A cap bs' q2 6 R3 (by omega) (by omega)).mono ?_
    rintro e w5 ⟨k1, rfl, hk1, R5, G5⟩
    have b5 := below_of_grown b3 G5 (Nat.le_refl _) b3.size
    have va5 := va3.to (some w.heap.size) G5 (fun g e => by cases e; omega)
    have vb5 := V2.to (some w.heap.size) G5 (fun g e => by cases e; omega)
    clear G5
    go_wp2_with fail
    refine (spec_pick w5 w.heap.size A cap bs' _ 20 R5 (by omega) (by omega)).mono ?_
    rintro e w6 ⟨k2, rfl, hk2, R6, G6⟩
    have b6 := below_of_grown b5 G6 (Nat.le_refl _) b5.size
    have va6 := va5.to (some w.heap.size) G6 (fun g e => by cases e; omega)
    have vb6 := vb5.to (some w.heap.size) G6 (fun g e => by cases e; omega)
    clear G6 b5 va5 vb5 R5
    obtain ⟨d, hd1, hd2, hd3⟩ : ∃ d : Nat, d ≤ 1 ∧ (k2 : Int).tdiv 19 = (d : Int) ∧ (k2 : Int) / 19 = (d : Int) := pick20 hk2
    have kw : IntKind.i64.wrap ((k1 : Int) - (d : Int)) = (k1 : Int) - (d : Int) := IntWalk.i64_in _ (by omega)
    have kd : IntKind.i64.wrap (d : Int) = (d : Int) := IntWalk.i64_in _ (by omega)
    go_wp2_with fail
    refine (spec_pick w6 w.heap.size A cap bs' _ 4 R6 (by omega) (by omega)).mono ?_
    rintro e w7 ⟨k3, rfl, hk3, R7, G7⟩
    have HB7 := Lib.hid (below_of_grown b6 G7 (Nat.le_refl _) b6.size)
    have HA7 := Lib.hid (va6.to (some w.heap.size) G7 (fun g e => by cases e; omega)).verts
    have HV7 := Lib.hid (vb6.to (some w.heap.size) G7 (fun g e => by cases e; omega)).verts
    clear G7 b6 va6 vb6 R6 R7
    go_wp2_with fail
    go_ret4
    exact ⟨B1, _, us, vs, c1, c2, _, _, rfl, HA7.out, HV7.out, h2, h2b, hc, hcb, hcm2, hcm2b, HL1.out, HL2.out, HB7.out⟩
end Go.Proofs.Ytnccpifdajcejaa
