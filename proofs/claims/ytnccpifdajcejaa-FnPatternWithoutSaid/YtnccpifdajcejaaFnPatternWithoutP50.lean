/- The program's PatternWithout. No condition but sizes. -/
import Derived.Test.YtnccpifdajcejaaFnPatternWithoutP49
namespace Go.Proofs.Ytnccpifdajcejaa
open Go.RowKit

theorem RowOw.row {w w' : World} {g H : Nat} {vs : List Vx} {L : List Value} {k : Nat} (h : RowOw w g H vs L k) (hg : w.grownBy w' (some g)) : RowOw w' g H vs L k := by
  refine ⟨fun i v hi hv => ?_, h.2.1, h.2.2⟩
  obtain ⟨U, V, e1, e2, e3, e4⟩ := h.1 i v hi hv
  have ne : ∀ X (xs : List Int), Own w (g + 1) X xs → X.ownBlock = none ∨ X.ownBlock ≠ some g := by
    intro X xs ho
    cases hX : X.ownBlock with
    | none => exact Or.inl rfl
    | some q =>
      right
      intro e
      have := (ho.lt q hX).1
      have := Option.some.inj e
      omega
  exact ⟨U, V, e1, e2, e3.kept hg (ne _ _ e3), e4.kept hg (ne _ _ e4)⟩
theorem RowOw.up {w : World} {g H H' : Nat} {vs : List Vx} {L : List Value} {k : Nat} (h : RowOw w g H vs L k) (hH : H ≤ H') : RowOw w g H' vs L k :=
  ⟨h.1, h.2.1, fun i U q hi hU hq => Nat.lt_of_lt_of_le (h.2.2 i U q hi hU hq) hH⟩
theorem RowOw.push {w : World} {g H : Nat} {vs : List Vx} {L : List Value} {k : Nat} (h : RowOw w g H vs L k) {xs cs : List Int} {U V : Value} (hL : L.length = k * 2) (hk : vs[k]? = some (xs, cs)) (hU : Own w H U xs) (hV : Own w H V cs) (hUV : U.ownBlock = none ∨ U.ownBlock ≠ V.ownBlock) (hg : g < H) (hH : H ≤ w.heap.size) :
    RowOw w g w.heap.size vs (L ++ [U, V]) (k + 1) := by
  have h' : RowOw w g H vs (L ++ [U, V]) k := by
    refine ⟨fun i v hi hv => ?_, fun i j X Y hij hj hX hY => ?_, fun i X q hi hX hq => ?_⟩
    · obtain ⟨X, Y, e1, e2, e3, e4⟩ := h.1 i v hi hv
      exact ⟨X, Y, by rw [List.getElem?_append_left (by omega)]; exact e1, by rw [List.getElem?_append_left (by omega)]; exact e2, e3, e4⟩
    · rw [List.getElem?_append_left (by omega)] at hX hY
      exact h.2.1 i j X Y hij hj hX hY
    · rw [List.getElem?_append_left (by omega)] at hX
      exact h.2.2 i X q hi hX hq
  have h2 := h'.next (by simp; omega) hk hU hV hUV hg hH
  have e : ((L ++ [U, V]).set (k * 2) U).set (k * 2 + 1) V = L ++ [U, V] := by
    rw [List.set_append_right _ _ (by omega), List.set_append_right _ _ (by omega)]
    rw [show k * 2 - L.length = 0 from by omega, show k * 2 + 1 - L.length = 1 from by omega]
    rfl
  rwa [e] at h2
theorem RowV.read {w : World} {B g H n : Nat} {vs : List Vx} {L : List Value} (hr : RowV w B g n L) (ho : RowOw w g H vs L n) (hn : vs.length = n) : Verts w (some ⟨g, 0, none⟩) vs := by
  subst hn
  exact hr.verts ho.rowTo
theorem own_blk_form {w : World} {B : Nat} {xs : List Int} {D : Option Addr} {n c : Nat} (h : Own w B (.slice D n c) xs) (hn : 0 < xs.length) : ∃ g, D = some ⟨g, 0, none⟩ ∧ B ≤ g ∧ g < w.heap.size := by
  obtain ⟨g, cap, e, h1, h2⟩ := World.ownsRow.form h hn
  injection e with e1 _ _
  exact ⟨g, e1, h1, h2⟩

/-- a list of vertices in a row of the call's own, each list of numbers in a block of its own; and a flag -/
def RowRes (w : World) (rs : List Vx) (b : Bool) (e : Ending) (w' : World) : Prop :=
  ∃ g L, e = .returned (.tuple #[.slice (some ⟨g, 0, none⟩) rs.length rs.length, .bool b]) ∧ RowV w' w.heap.size g rs.length L ∧ RowOw w' g w'.heap.size rs L rs.length ∧ Below w.heap.size w w'
theorem RowRes.none {w w1 : World} {rs : List Vx} {b : Bool} (hr : rs = []) (hb : b = false) (hbel : Below w.heap.size w w1) : RowRes w rs b (.returned (.tuple #[.slice (some ⟨w1.heap.size, 0, none⟩) 0 0, .bool false])) (w1.alloc (.cells #[] 30)) := by
  subst hr hb
  exact ⟨w1.heap.size, [], rfl, World.ownsRow_lit w1 #[] 0 hbel.size (by unfold maxLen; omega) rfl, RowOw.zero _ _ _ _ _, hbel.alloc hbel.size _⟩
set_option maxHeartbeats 4000000 in
set_option maxRecDepth 100000 in
theorem impl_PatternWithout (A : Option Addr) (cap : Nat) (vs : List Vx) (z : Int) (w : World) (h : Verts w A vs) (hl : vs.length ≤ maxLen) :
    Calls Try.prog 24 #[.slice A vs.length cap, .int .i64 z] w (RowRes w (woR vs z) (withoutB vs z)) := by
  have hno : withoutB vs z = false → ∀ w1 : World, Below w.heap.size w w1 → RowRes w (woR vs z) (withoutB vs z) (.returned (.tuple #[.slice (some ⟨w1.heap.size, 0, none⟩) 0 0, .bool false])) (w1.alloc (.cells #[] 30)) := by
    intro hb w1 hbel
    exact RowRes.none (by unfold woR; rw [hb]; rfl) hb hbel
  have HNo := Lib.hid hno
  clear hno
  go_enter Try.func24, Try.ntmps24
  go_wp2_with fail
  refine (impl_creaseUses A cap vs w h hl).mono ?_
  rintro e w1 ⟨U, rfl, hyes, hnn, hb1⟩
  cases hp : patB vs with
  | false =>
    have hv := hnn hp
    subst hv
    have hw : withoutB vs z = false := by unfold withoutB; rw [hp]; rfl
    have HB := Lib.hid hb1
    have HW := Lib.hid hw
    clear hp hyes hnn hw hb1
    go_wp2_with fail
    go_ret2
    exact HNo.out HW.out w1 HB.out
  | true =>
    have hU := hyes hp
    obtain ⟨p1, p3, hall, huse, n0, n10⟩ := patB_parts hp
    obtain ⟨n, hn⟩ : ∃ n, n = (ncr vs).toNat := ⟨_, rfl⟩
    rw [← hn] at hU
    have hn10 : n ≤ 10 := by omega
    have hWB : withoutB vs z = (decide (0 ≤ z) && decide (z < vs.length) && decide (vs.length ≠ 1)) := by unfold withoutB; rw [hp]; rfl
    have HWB := Lib.hid hWB
    obtain ⟨D, cd, rfl, _, hcd, hcm⟩ := hU.form
    have hul := usesL_len vs n
    have HUL := Lib.hid hul
    rw [hul]
    rw [hul] at hcd
    have HU := Lib.hid hU
    have HB := Lib.hid hb1
    have HN := Lib.hid hn
    have HP := Lib.hid hp
    have HAll := Lib.hid hall
    have HUse := Lib.hid huse
    clear hp hyes hnn hU hb1 hn hall huse hWB hul
    by_cases c1 : z < 0
    · have d1 : decide (z < 0) = true := by simp; omega
      have hw : withoutB vs z = false := by rw [HWB.out, decide_eq_false (by omega)]; rfl
      have HW := Lib.hid hw
      clear hw
      go_wp2_with fail
      go_ret2
      exact HNo.out HW.out w1 HB.out
    · have d1 : decide (z < 0) = false := by simp; omega
      by_cases c2 : (vs.length : Int) ≤ z
      · have d2 : decide ((vs.length : Int) ≤ z) = true := by simp; omega
        have hw : withoutB vs z = false := by rw [HWB.out, decide_eq_true (by omega), decide_eq_false (by omega)]; rfl
        have HW := Lib.hid hw
        clear hw
        go_wp2_with fail
        go_ret2
        exact HNo.out HW.out w1 HB.out
      · have d2 : decide ((vs.length : Int) ≤ z) = false := by simp; omega
        by_cases c3 : vs.length = 1
        · have d3 : ((vs.length : Int) == 1) = true := by rw [beq_iff_eq]; omega
          have hw : withoutB vs z = false := by rw [HWB.out, decide_eq_true (by omega), decide_eq_true (by omega), decide_eq_false (by omega)]; rfl
          have HW := Lib.hid hw
          clear hw c3
          go_wp2_with fail
          go_ret2
          exact HNo.out HW.out w1 HB.out
        · have d3 : ((vs.length : Int) == 1) = false := by rw [beq_eq_false_iff_ne]; omega
          have hw : withoutB vs z = true := by rw [HWB.out, decide_eq_true (by omega), decide_eq_true (by omega), decide_eq_true c3]; rfl
          obtain ⟨at_, hat⟩ : ∃ at_ : Nat, z = (at_ : Int) := ⟨z.toNat, by omega⟩
          subst hat
          have hal : at_ < vs.length := by omega
          have d2' : decide (vs.length ≤ at_) = false := by simp; omega
          have hwo : woR vs (at_ : Int) = withoutL vs at_ := by unfold woR; rw [hw, if_pos rfl]; rfl
          have HWO := Lib.hid hwo
          have HW := Lib.hid hw
          clear hw hwo HNo HWB
          obtain ⟨b, off, A1, c1', A2, c2', rfl, hb, r1, r2, i1, l1, m1, i2, l2, m2⟩ := h.at_ hal
          have hvx := vtxB_bd (List.all_eq_true.1 HAll.out vs[at_] (List.getElem_mem hal))
          have hcr : vs[at_].2.Nodup := by
            have := List.all_eq_true.1 HAll.out vs[at_] (List.getElem_mem hal)
            unfold vtxB at this
            simp only [Bool.and_eq_true] at this
            exact ((crB_iff _).1 this.2).2
          have hlt_n : ∀ v ∈ vs, ∀ c ∈ v.2, c < (n : Int) := by
            intro v hv c hc
            have := (ncGo_le 0 vs).2 v hv c hc
            have := HN.out
            unfold ncr at this n0
            omega
          obtain ⟨cs, hcs⟩ : ∃ cs, cs = vs[at_].2 := ⟨_, rfl⟩
          rw [← hcs] at r2 i2 l2 hcr hvx
          have hcb : ∀ c ∈ cs, 0 ≤ c ∧ c < (n : Int) := fun c hc => ⟨(hvx.2.2.2.2 c hc).1, hlt_n _ (List.getElem_mem hal) c (by rw [← hcs]; exact hc)⟩
          have hcl : cs.length ≤ 10 := hvx.2.2.1
          have hc2 : 2 ≤ cs.length := hvx.2.2.2.1
          have hnpos : 0 < n := by have := hcb cs[0] (List.getElem_mem (by omega)); omega
          obtain ⟨gU, rfl, hgU1, hgU2⟩ := own_blk_form HU.out (by rw [HUL.out]; exact hnpos)
          have r2w := (HB.out.cell (p := ⟨b, off + at_ * 2 + 1, none⟩) hb).trans r2
          have HCR := Lib.hid hcr
          have HCB := Lib.hid hcb
          have HCS := Lib.hid hcs
          have HLT := Lib.hid hlt_n
          have HI2 := Lib.hid i2
          have hU0 : OwnN w1 w.heap.size (.slice (some ⟨gU, 0, none⟩) n cd) n (decL vs (cs.take 0) n) := by
            rw [List.take_zero, decL_nil]
            have := HU.out
            simpa [Own, usesL_len] using this
          have HU0 := Lib.hid hU0
          have k0 : (0 : Int) ≤ (at_ : Int) := by omega
          have k1 : (at_ : Int) < (vs.length : Int) := by omega
          clear hcr hcb hcs hlt_n i1 i2 r1 r2 hU0 hvx l1 HUse HUL HP
          go_wp2_with fail
          go_loopg [9, 46] (cs.length + 1) (fun gg s9 s46 wr => ∃ (j : Nat), s9 = s9 ∧ j ≤ cs.length ∧ s46 = .int .i64 j ∧ cs.length - j < gg ∧ Hid (OwnN wr w.heap.size (.slice (some ⟨gU, 0, none⟩) n cd) n (decL vs (cs.take j) n)) ∧ Hid (Below w.heap.size w wr) ∧ gU < wr.heap.size)
          case atStart => exact ⟨0, rfl, Nat.zero_le _, rfl, by omega, HU0, HB, hgU2⟩
          case round =>
            clear HU0 HB HU r2w
            obtain ⟨j, _, hj, rfl, hg, HU, HB, hgs⟩ := hrel
            cases gk with
            | zero => omega
            | succ gg =>
            by_cases hlt : j < cs.length
            · obtain ⟨m, hm⟩ : ∃ m : Nat, cs[j] = (m : Int) := ⟨cs[j].toNat, by have := HCB.out cs[j] (List.getElem_mem hlt); omega⟩
              have hmn : m < n := by have := (HCB.out cs[j] (List.getElem_mem hlt)).2; omega
              obtain ⟨bb, oo, rfl, hbb, hcc⟩ := (HI2.out.below HB.out) (by intro e; subst e; simp at hlt)
              have r1 := hcc j cs[j] (List.getElem?_eq_getElem hlt)
              rw [hm] at r1
              obtain ⟨hnot, hset⟩ := decL_set (vs := vs) (n := n) hlt hm HCR.out
              obtain ⟨u, hu⟩ : ∃ u : Int, u = (useN vs (m : Int) : Int) := ⟨_, rfl⟩
              have hub : 0 ≤ u ∧ u ≤ 3 := by have := useN_le vs (m : Int); omega
              have hget := decL_get (vs := vs) hmn hnot
              rw [← hu] at hget hset
              have c1 := HU.out.cellAt m (by omega)
              rw [List.getElem?_map, hget] at c1
              simp only [Option.map_some] at c1
              have c2 := HU.out.frozenAt m
              have st := HU.out.stored m (.int .i64 (u - 1))
              rw [map_set_int, hset] at st
              have hst : OwnN (wr.setCell ⟨gU, m, none⟩ (.int .i64 (u - 1))) w.heap.size (.slice (some ⟨gU, 0, none⟩) n cd) n (decL vs (cs.take (j + 1)) n) := st.1
              have HST := Lib.hid hst
              have hb2 : Below w.heap.size w (wr.setCell ⟨gU, m, none⟩ (.int .i64 (u - 1))) := HB.out.trans (below_set wr m _ hgU1)
              have HB2 := Lib.hid hb2
              have hs2 : gU < (wr.setCell ⟨gU, m, none⟩ (.int .i64 (u - 1))).heap.size := by simpa using hgs
              have j1 : (j : Int) < (cs.length : Int) := by omega
              have j0 : (0 : Int) ≤ (j : Int) := by omega
              have m0 : (0 : Int) ≤ (m : Int) := by omega
              have m1 : (m : Int) < (n : Int) := by omega
              clear hcc hm hset hget hu st hst hb2 hnot
              go_wp2_with fail
              go_roundg gg
              case measure => omega
              case rel => exact ⟨j + 1, trivial, by omega, by go_num, by omega, HST, HB2, hs2⟩
            · obtain rfl : j = cs.length := by omega
              obtain ⟨wA, rfl⟩ : ∃ wA, wA = wr := ⟨_, rfl⟩
              have hrest : OwnN wA w.heap.size (.slice (some ⟨gU, 0, none⟩) n cd) n (usesL (vs.eraseIdx at_) n) := by
                have := HU.out
                rw [List.take_length, HCS.out, decL_all hal] at this
                exact this
              obtain ⟨rs, hrs⟩ : ∃ rs, rs = vs.eraseIdx at_ := ⟨_, rfl⟩
              rw [← hrs] at hrest
              have HRest := Lib.hid hrest
              have HRS := Lib.hid hrs
              obtain ⟨i0, hi, hz0, hz1, hz2⟩ := info_parts Try.infoInt
              have hz0' : w.heap.size ≤ wA.heap.size := HB.out.size
              have hsr : ∀ v ∈ rs, v ∈ vs := fun v hv => by rw [HRS.out] at hv; exact List.mem_of_mem_eraseIdx hv
              have HSR := Lib.hid hsr
              clear hrest hrs hsr HU HCS HCR HCB HI2
              go_wp2_with (at_make; go_loud (refine wpList_make_full _ rfl _ _ 27 rfl wA.heap.size 3 i0 (.int .i64 0) 1 Try.underlying27 hi hz0 hz1 .i64 .i64 _ _ n (by rfl) (by rfl) (by rfl) (by rfl) (by rw [hz2]; omega) (by unfold maxLen; omega) (Nat.le_refl _) ?_))
              intro w2 ho2 hg2
              have hb2 : Below wA.heap.size wA w2 := (Below.refl _ _).grown hg2 (Nat.le_refl _) (by intro k hk; cases hk)
              have hN2 : OwnN w2 wA.heap.size (.slice (some ⟨wA.heap.size, 0, none⟩) n n) n (numL rs n 0) := by
                have e : (madeCells #[Value.int .i64 0] n).toList = (numL rs n 0).map (Value.int .i64) := by
                  rw [numL_zero, List.map_replicate]; exact toList_madeCells_one _ _
                show w2.ownsRow _ _ _ _ _ _
                rw [← e]
                exact ho2
              have hUu : OwnN w2 w.heap.size (.slice (some ⟨gU, 0, none⟩) n cd) n (usesL rs n) := own_below2' HRest.out hb2
              have HU2 := Lib.hid hUu
              have HN2 := Lib.hid hN2
              have HB2 := Lib.hid (HB.out.trans (hb2.mono hz0'))
              have hs2 : wA.heap.size < w2.heap.size := (hN2.lt _ rfl).2
              clear hi hz0 hz1 hz2 ho2 hg2 hb2 hN2 hUu HRest HB
              go_wp2_with fail
              go_loopg [11, 12, 13, 62] (n + 1) (fun gg s11 s12 s13 s62 wr => ∃ (j q : Nat), s12 = s12 ∧ s13 = s13 ∧ s11 = .int .i64 q ∧ Hid (q = numW rs j) ∧ j ≤ n ∧ s62 = .int .i64 j ∧ n - j < gg ∧ Hid (OwnN wr wA.heap.size (.slice (some ⟨wA.heap.size, 0, none⟩) n n) n (numL rs n j)) ∧ Hid (OwnN wr w.heap.size (.slice (some ⟨gU, 0, none⟩) n cd) n (usesL rs n)) ∧ Hid (Below w.heap.size w wr) ∧ wA.heap.size < wr.heap.size)
              case atStart => exact ⟨0, 0, rfl, rfl, rfl, rfl, Nat.zero_le _, rfl, by omega, HN2, HU2, HB2, hs2⟩
              case round =>
                clear HU2 HN2 HB2 hs2
                obtain ⟨j, q, _, _, rfl, HQ, hj, rfl, hg, HNn, HU, HB, hgq⟩ := hrel
                cases gk with
                | zero => omega
                | succ gg =>
                by_cases hlt : j < n
                · have c1 := HU.out.cellAt j (by omega)
                  rw [List.getElem?_map, usesL_get rs hlt] at c1
                  simp only [Option.map_some] at c1
                  have hwle := numW_le rs j
                  have hq := HQ.out
                  rw [← hq] at hwle
                  obtain ⟨u, hu⟩ : ∃ u, u = useN rs (j : Int) := ⟨_, rfl⟩
                  rw [← hu] at c1
                  have j1 : (j : Int) < (n : Int) := by omega
                  have j0 : (0 : Int) ≤ (j : Int) := by omega
                  by_cases hu0 : 0 < u
                  · have du : decide ((0 : Int) < (u : Int)) = true := by simp; omega
                    have c2 := HNn.out.cellAt j (by omega)
                    rw [List.getElem?_eq_getElem (by simp [numL_len]; omega)] at c2
                    have f2 := HNn.out.frozenAt j
                    have st := HNn.out.stored j (.int .i64 (q : Int))
                    rw [map_set_int, hq, numL_yes (by rw [← hu]; exact hu0)] at st
                    rw [← hq] at st
                    have hst : OwnN (wr.setCell ⟨wA.heap.size, j, none⟩ (.int .i64 (q : Int))) wA.heap.size (.slice (some ⟨wA.heap.size, 0, none⟩) n n) n (numL rs n (j + 1)) := st.1
                    have hUk : OwnN (wr.setCell ⟨wA.heap.size, j, none⟩ (.int .i64 (q : Int))) w.heap.size (.slice (some ⟨gU, 0, none⟩) n cd) n (usesL rs n) := HU.out.kept st.2 (Or.inr (by
                      intro e
                      have e' : gU = wA.heap.size := Option.some.inj e
                      omega))
                    have HST := Lib.hid hst
                    have HUK := Lib.hid hUk
                    have HBK := Lib.hid (HB.out.trans (below_set wr j (.int .i64 (q : Int)) hz0'))
                    have hsk : wA.heap.size < (wr.setCell ⟨wA.heap.size, j, none⟩ (.int .i64 (q : Int))).heap.size := by simpa using hgq
                    have hW : Hid (q + 1 = numW rs (j + 1)) := by show _ = _; rw [numW, if_pos (by rw [← hu]; exact hu0), hq]
                    have hq10 : q ≤ 10 := by omega
                    clear st hst hUk hq hu hwle
                    go_wp2_with fail
                    go_roundg gg
                    case measure => omega
                    case rel => exact ⟨j + 1, q + 1, trivial, trivial, by go_num, hW, by omega, by go_num, by omega, HST, HUK, HBK, hsk⟩
                  · have du : decide ((0 : Int) < (u : Int)) = false := by simp; omega
                    have hW : Hid (q = numW rs (j + 1)) := by show _ = _; rw [numW, if_neg (by rw [← hu]; exact hu0), hq]; rfl
                    have HN3 : Hid (OwnN wr wA.heap.size (.slice (some ⟨wA.heap.size, 0, none⟩) n n) n (numL rs n (j + 1))) := by
                      show OwnN _ _ _ _ _
                      rw [← numL_no (by rw [← hu]; exact hu0)]; exact HNn.out
                    clear hq hu hwle
                    go_wp2_with fail
                    go_roundg gg
                    case measure => omega
                    case rel => exact ⟨j + 1, q, trivial, trivial, rfl, hW, by omega, by go_num, by omega, HN3, HU, HB, hgq⟩
                · obtain rfl : j = n := by omega
                  obtain ⟨wB, rfl⟩ : ∃ wB, wB = wr := ⟨_, rfl⟩
                  obtain ⟨i0, hi, hz0, hz1, hz2⟩ := info_parts Try.infoVx
                  have hNI := Ints.of_own HNn.out
                  have HNI := Lib.hid hNI
                  have hzq : w.heap.size ≤ wB.heap.size := HB.out.size
                  have kw : IntKind.i64.wrap ((vs.length : Int) - 1) = ((vs.length - 1 : Nat) : Int) := by rw [show (vs.length : Int) - 1 = ((vs.length - 1 : Nat) : Int) from by omega]; exact IntWalk.i64_in _ (by omega)
                  have kw2 : (vs.length : Int) - 1 = ((vs.length - 1 : Nat) : Int) := by omega
                  have kp : (1 : Int) ≤ (vs.length : Int) := by omega
                  have HKW := Lib.hid kw2
                  clear HNn HU hNI kw kw2
                  go_wp2_with (at_make; go_loud (refine wpList_make_own _ rfl _ _ 23 rfl wB.heap.size 30 i0 (.agg #[.slice none 0 0, .slice none 0 0]) 2 Try.underlying23 hi hz0 hz1 .i64 .i64 _ (vs.length - 1) (by rfl) (by rfl) (by first | exact HKW.out | rfl) (by rw [hz2]; omega) (by unfold maxLen; omega) (Nat.le_refl _) ?_))
                  intro w3 ho3 hg3
                  have hb3 : Below wB.heap.size wB w3 := (Below.refl _ _).grown hg3 (Nat.le_refl _) (by intro k hk; cases hk)
                  have HO3 := Lib.hid (show OwnX w3 wB.heap.size (.slice (some ⟨wB.heap.size, 0, none⟩) 0 (vs.length - 1)) 0 [] from ho3)
                  have HB3 := Lib.hid hb3
                  have hs3 : wB.heap.size < w3.heap.size := (ho3.lt _ rfl).2
                  clear hi hz0 hz1 hz2 ho3 hg3 hb3
                  go_wp2_with fail
                  go_loopg [14, 15, 16, 82] (vs.length + 1) (fun gg s14 s15 s16 s82 wr => ∃ (k : Nat) (L : List Value), s15 = s15 ∧ s16 = s16 ∧ s14 = .slice (some ⟨wB.heap.size, 0, none⟩) (doneN at_ k) (vs.length - 1) ∧ k ≤ vs.length ∧ s82 = .int .i64 k ∧ vs.length - k < gg ∧ Hid (OwnX wr wB.heap.size (.slice (some ⟨wB.heap.size, 0, none⟩) (doneN at_ k) (vs.length - 1)) (doneN at_ k) L) ∧ Hid (RowOw wr wB.heap.size wr.heap.size (withoutL vs at_) L (doneN at_ k)) ∧ Hid (Below wB.heap.size wB wr) ∧ wB.heap.size < wr.heap.size)
                  case atStart => exact ⟨0, [], rfl, rfl, rfl, Nat.zero_le _, rfl, by omega, HO3, RowOw.zero _ _ _ _ _, HB3, hs3⟩
                  case round =>
                    clear HO3 HB3 hs3
                    obtain ⟨k, L, _, _, rfl, hk, rfl, hg, HO, HR, HBx, hgx⟩ := hrel
                    cases gk with
                    | zero => omega
                    | succ gg =>
                    have HBw : Hid (Below w.heap.size w wr) := HB.out.trans (HBx.out.mono hzq)
                    by_cases hltk : k < vs.length
                    · obtain ⟨b, off, A1, c1, A2, c2, e0, hb, r1, r2, i1, l1, m1, i2, l2, m2⟩ := h.at_ hltk
                      injection e0 with e0
                      injection e0 with e0 e0'
                      subst e0 e0'
                      have hvk := vtxB_bd (List.all_eq_true.1 HAll.out vs[k] (List.getElem_mem hltk))
                      obtain ⟨xs, hxs⟩ : ∃ xs, xs = vs[k].1 := ⟨_, rfl⟩
                      obtain ⟨cs, hcs⟩ : ∃ cs, cs = vs[k].2 := ⟨_, rfl⟩
                      rw [← hxs] at r1 i1 l1 hvk
                      rw [← hcs] at r2 i2 l2 hvk
                      have r1w := (HBw.out.cell (p := ⟨b, off + k * 2, none⟩) hb).trans r1
                      have r2w := (HBw.out.cell (p := ⟨b, off + k * 2 + 1, none⟩) hb).trans r2
                      obtain ⟨w4, hw4⟩ : ∃ w4, w4 = wr.alloc (.cells #[.slice A1 xs.length c1, .slice A2 cs.length c2] 30) := ⟨_, rfl⟩
                      have b4 : Below wr.heap.size wr w4 := by rw [hw4]; exact (Below.refl _ _).alloc (Nat.le_refl _) _
                      have K4 : Blk w4 wr.heap.size 30 #[.slice A1 xs.length c1, .slice A2 cs.length c2] := by rw [hw4]; exact Blk.new wr _ _
                      have e40 := K4.cell 0
                      have e41 := K4.cell 1
                      have HW4 := Lib.hid hw4
                      have kk1 : (k : Int) < (vs.length : Int) := by omega
                      have kk0 : (0 : Int) ≤ (k : Int) := by omega
                      have hs4 : wr.heap.size < w4.heap.size := K4.lt
                      have hmem : vs[k] ∈ vs := List.getElem_mem hltk
                      have hcn : ∀ c ∈ cs, 0 ≤ c ∧ c.toNat < j := fun c hc => by
                        have h1 := (hvk.2.2.2.2 c hc).1
                        have h2 := HLT.out _ hmem c (by rw [← hcs]; exact hc)
                        omega
                      by_cases hne : k = at_
                      · have dne : ((k : Int) != (at_ : Int)) = false := by rw [bne_eq_false_iff_eq]; omega
                        have hdn : doneN at_ (k + 1) = doneN at_ k := by unfold doneN; rw [if_pos (by omega), if_neg (by omega)]; omega
                        have HDN := Lib.hid hdn
                        have HO4 : Hid (OwnX w4 wB.heap.size (.slice (some ⟨wB.heap.size, 0, none⟩) (doneN at_ k) (vs.length - 1)) (doneN at_ k) L) := own_below2' HO.out b4
                        have HR4 : Hid (RowOw w4 wB.heap.size w4.heap.size (withoutL vs at_) L (doneN at_ k)) := (HR.out.below b4).up b4.size
                        have HB4 : Hid (Below wB.heap.size wB w4) := HBx.out.trans (b4.mono HBx.out.size)
                        clear hvk hxs hcs r1 r2 i1 i2 hw4 b4 K4 hmem hcn hdn l1 l2 hne
                        go_wp2_with fail
                        rw [← HW4.out]
                        go_wp2_with fail
                        go_roundg gg
                        case measure => omega
                        case rel => exact ⟨k + 1, L, trivial, trivial, by rw [HDN.out], by omega, by go_num, by omega, by rw [HDN.out]; exact HO4, by rw [HDN.out]; exact HR4, HB4, by omega⟩
                      · have dne : ((k : Int) != (at_ : Int)) = true := by rw [bne_iff_ne]; omega
                        have hdn : doneN at_ (k + 1) = doneN at_ k + 1 := by unfold doneN; split <;> split <;> omega
                        have hdl : doneN at_ k + 1 ≤ vs.length - 1 := by unfold doneN; split <;> omega
                        have hget := withoutL_get hltk hne
                        have hme := erase_mem hltk hne
                        have hfx : ∀ c ∈ cs, 0 ≤ c ∧ (numL rs j j)[c.toNat]? = some ((fun c => (numW rs c : Int)) c.toNat) := fun c hc => by
                          obtain ⟨q1, q2⟩ := hcn c hc
                          refine ⟨q1, numL_get q2 ?_⟩
                          rw [show ((c.toNat : Nat) : Int) = c from by omega, HRS.out]
                          exact useN_pos.2 ⟨_, hme, by rw [← hcs]; exact hc⟩
                        have hrn : renV (fun c => (numW (vs.eraseIdx at_) c : Int)) vs[k] = (xs, cs.map fun c => (fun c => (numW rs c : Int)) c.toNat) := by
                          unfold renV; rw [← HRS.out, hxs, hcs]
                        rw [hrn] at hget
                        have hcall := impl_renumbered A1 A2 (some ⟨wA.heap.size, 0, none⟩) c1 c2 j xs cs (numL rs j j) (fun c => (numW rs c : Int)) w4 ((i1.below HBw.out).below b4) ((i2.below HBw.out).below b4) ((HNI.out.below HBx.out).below b4) (by omega) (by omega) (by omega) hfx (by rw [numL_len]; omega)
                        rw [numL_len] at hcall
                        have HCALL := Lib.hid hcall
                        have HGET := Lib.hid hget
                        have HDN := Lib.hid hdn
                        have HO4 : Hid (OwnX w4 wB.heap.size (.slice (some ⟨wB.heap.size, 0, none⟩) (doneN at_ k) (vs.length - 1)) (doneN at_ k) L) := own_below2' HO.out b4
                        have HR4 : Hid (RowOw w4 wB.heap.size wr.heap.size (withoutL vs at_) L (doneN at_ k)) := HR.out.below b4
                        have HB4 : Hid (Below wB.heap.size wB w4) := HBx.out.trans (b4.mono HBx.out.size)
                        have hzx : wB.heap.size ≤ wr.heap.size := HBx.out.size
                        clear hvk hxs hcs r1 r2 i1 i2 hw4 b4 K4 hmem hcn hdn l1 l2 hne hget hme hfx hrn hcall
                        go_wp2_with fail
                        rw [← HW4.out]
                        go_wp2_with fail
                        refine HCALL.out.mono ?_
                        rintro e w5 ⟨U, V, rfl, oU, oV, hUV, hb5⟩
                        have ho5 : OwnX w5 wB.heap.size (.slice (some ⟨wB.heap.size, 0, none⟩) (doneN at_ k) (vs.length - 1)) (doneN at_ k) L := own_below2' HO4.out hb5
                        have hL := ho5.1
                        have hr5 := (HR4.out.below hb5).push hL HGET.out (own_lower' oU (by omega)) (own_lower' oV (by omega)) hUV hgx (by have := hb5.size; omega)
                        obtain ⟨A5, c5, rfl, _, _, _⟩ := oU.form
                        obtain ⟨A6, c6, rfl, _, _, _⟩ := oV.form
                        rw [List.length_map] at hr5
                        have HR5 := Lib.hid hr5
                        have hb5' : Below wB.heap.size wB w5 := HB4.out.trans (hb5.mono (by omega))
                        have HB5 := Lib.hid hb5'
                        have hs5 : wB.heap.size ≤ w5.heap.size := hb5'.size
                        clear oU oV hUV hb5 hr5 hb5' HR4 HO4 HO HR
                        go_wp2_with (at_builtin; go_loud (refine wpList_pushV (W := w5) rfl _ _ rfl wB.heap.size _ (doneN at_ k) L _ _ (by rfl) (by rfl) ho5 (by rfl) (by rfl) hs5 (by omega) ?_))
                        intro v' w6 ho6 hg6 hb6 _ hroom
                        subst hroom
                        have HO6 := Lib.hid ho6
                        have HR6 := Lib.hid ((HR5.out.row hg6).up hb6.size)
                        have HB6 := Lib.hid (HB5.out.trans hb6)
                        have hs6 : wB.heap.size < w6.heap.size := (ho6.lt _ rfl).2
                        clear ho5 ho6 hg6 hb6 HR5 HB5 HB4
                        go_wp2_with fail
                        go_roundg gg
                        case measure => omega
                        case rel => exact ⟨k + 1, _, trivial, trivial, by rw [HDN.out], by omega, by go_num, by omega, by rw [HDN.out]; exact HO6, by rw [HDN.out]; exact HR6, HB6, hs6⟩
                    · obtain rfl : k = vs.length := by omega
                      have hdn : doneN at_ vs.length = vs.length - 1 := by unfold doneN; rw [if_pos hal]
                      have hwl := withoutL_len hal
                      go_wp2_with fail
                      go_ret2
                      refine ⟨wB.heap.size, L, by rw [HWO.out, HW.out, hwl]; rfl, ?_, ?_, HBw.out⟩
                      · rw [HWO.out, hwl]
                        have := HO.out
                        rw [hdn] at this
                        exact own_lower' this hzq
                      · rw [HWO.out, hwl, ← hdn]
                        exact HR.out
end Go.Proofs.Ytnccpifdajcejaa
