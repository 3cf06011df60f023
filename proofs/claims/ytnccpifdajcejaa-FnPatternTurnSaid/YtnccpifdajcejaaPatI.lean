/- The program's tests of patterns: slices.Contains, addUses, creaseUses, PatternValid, PatternCreases. No condition but sizes. -/
import Derived.Laws.OwnMore
import Derived.Test.YtnccpifdajcejaaVert
import Derived.Test.YtnccpifdajcejaaPat
import Derived.Test.YtnccpifdajcejaaSeg
import Derived.Test.YtnccpifdajcejaaImplA
namespace Go.Proofs.Ytnccpifdajcejaa
open Go.RowKit

theorem Ints.away {w w' : World} {A : Option Addr} {xs : List Int} {g : Nat} (h : Ints w A xs) (hb : Below w.heap.size w w') (hg : w.heap.size ≤ g) : Away w' g A xs := by
  intro hn
  obtain ⟨b, off, e, hlt, hc⟩ := h hn
  exact ⟨b, off, e, by omega, Nat.lt_of_lt_of_le hlt hb.size, fun k x hk => (hb.cell (p := ⟨b, off + k, none⟩) hlt).trans (hc k x hk)⟩

set_option maxHeartbeats 400000 in
theorem slices_Index (A : Option Addr) (cap : Nat) (xs : List Int) (z : Int) (w : World) (h : Ints w A xs) (hl : xs.length ≤ maxLen) :
    Calls Try.prog 93 #[.slice A xs.length cap, .int .i64 z] w fun e w' => ∃ i : Int, e = .returned (.int .i64 i) ∧ ((0 ≤ i) ↔ (z ∈ xs)) ∧ w = w' := by
  unfold maxLen at hl
  go_enter Try.func93, Try.ntmps93
  go_wp2_with fail
  go_loop [5, 8] (fun s5 s8 => ∃ k : Nat, k ≤ xs.length ∧ s8 = .int .i64 k ∧ Hid ((z ∈ xs) ↔ (z ∈ xs.drop k))) (fun _ s8 => xs.length - (intOf s8).toNat)
  case atStart => exact ⟨0, Nat.zero_le _, rfl, by show _ ↔ _; simp⟩
  case round =>
    obtain ⟨k, hk, rfl, H⟩ := hrel
    by_cases hlt : k < xs.length
    · obtain ⟨b, off, y, rfl, _, HX, hc, _⟩ := h.at_ hlt
      have k1 : (k : Int) < (xs.length : Int) := by omega
      by_cases q : z = y
      · have d : (z == y) = true := by rw [beq_iff_eq]; exact q
        have hm : z ∈ xs := by rw [H.out, HX.out, q]; simp
        have HM := Lib.hid hm
        clear q hm
        go_wp2_with fail
        go_ret
        exact ⟨k, rfl, ⟨fun _ => HM.out, fun _ => by omega⟩, rfl⟩
      · have d : (z == y) = false := by rw [beq_eq_false_iff_ne]; exact q
        have H2 : Hid ((z ∈ xs) ↔ (z ∈ xs.drop (k + 1))) := by
          show _ ↔ _
          rw [H.out, HX.out, List.mem_cons]
          exact ⟨fun e => e.resolve_left q, Or.inr⟩
        clear q
        go_wp2_with fail
        go_round
        case rel => exact ⟨k + 1, by omega, by go_num, H2⟩
        case measure => simp [intOf]; omega
    · obtain rfl : k = xs.length := by omega
      have hm : ¬ z ∈ xs := by rw [H.out]; simp
      have HM := Lib.hid hm
      clear hm
      go_wp2_with fail
      go_ret
      exact ⟨-1, rfl, ⟨fun h => by omega, fun h => absurd h HM.out⟩, rfl⟩
theorem slices_Contains (A : Option Addr) (cap : Nat) (xs : List Int) (z : Int) (w : World) (h : Ints w A xs) (hl : xs.length ≤ maxLen) :
    Calls Try.prog 87 #[.slice A xs.length cap, .int .i64 z] w fun e w' => e = .returned (.bool (decide (z ∈ xs))) ∧ w = w' := by
  go_enter Try.func87, Try.ntmps87
  go_wp2_with fail
  refine (slices_Index A cap xs z w h hl).mono ?_
  rintro e w' ⟨i, rfl, hi, rfl⟩
  have hd : decide (0 ≤ i) = decide (z ∈ xs) := by rw [Bool.eq_iff_iff]; simp [hi]
  have HD := Lib.hid hd
  clear hi hd
  go_wp2_with fail
  go_ret
  exact ⟨by rw [← HD.out]; rfl, rfl⟩

/-- a row of ten numbers -/
def rowF (f : Nat → Int) : List Int := (List.range 10).map f
theorem rowF_len (f : Nat → Int) : (rowF f).length = 10 := by simp [rowF]
theorem rowF_get (f : Nat → Int) {k : Nat} (h : k < 10) : (rowF f)[k]? = some (f k) := by simp [rowF, h]
theorem rowF_set (f : Nat → Int) {k : Nat} (v : Int) : (rowF f).set k v = rowF (fun j => if j = k then v else f j) := by
  apply List.ext_getElem?
  intro j
  rw [List.getElem?_set]
  by_cases hj : j < 10
  · rw [rowF_get _ hj, rowF_get _ hj, rowF_len]
    by_cases e : k = j
    · rw [if_pos e, if_pos (by omega), if_pos e.symm]
    · rw [if_neg e, if_neg (fun e2 => e e2.symm)]
  · rw [List.getElem?_eq_none (by rw [rowF_len]; omega), List.getElem?_eq_none (by rw [rowF_len]; omega)]
    split
    · rw [if_neg (by rw [rowF_len]; omega)]
    · rfl
theorem rowF_congr {f g : Nat → Int} (h : ∀ k, k < 10 → f k = g k) : rowF f = rowF g := by
  unfold rowF
  exact List.map_congr_left fun k hk => h k (List.mem_range.1 hk)
/-- f, with one more at each of the numbers cs -/
def bump (f : Nat → Int) (cs : List Int) (k : Nat) : Int := f k + (if (k : Int) ∈ cs then 1 else 0)
abbrev Row10 (w : World) (B g : Nat) (f : Nat → Int) : Prop := w.ownsRow B 3 1 (.slice (some ⟨g, 0, none⟩) 10 10) 10 ((rowF f).map (Value.int .i64))
theorem map_set_int (l : List Int) (k : Nat) (v : Int) : (l.map (Value.int .i64)).set k (.int .i64 v) = (l.set k v).map (Value.int .i64) := by simp [List.map_set]

set_option maxHeartbeats 2000000 in
theorem impl_addUses (A1 A2 : Option Addr) (c1 c2 n1 : Nat) (cs : List Int) (f : Nat → Int) (B g : Nat) (w : World) (h : Away w g A2 cs) (hl : cs.length ≤ 1000000) (hcap : cs.length ≤ c2) (hr : Row10 w B g f) (hf : ∀ k, k < 10 → 0 ≤ f k ∧ f k ≤ 1000000) (_hB : B ≤ g) (hgs : g < w.heap.size) :
    Calls Try.prog 73 #[.agg #[.slice A1 n1 c1, .slice A2 cs.length c2], .slice (some ⟨g, 0, none⟩) 10 10] w fun e w' => e = .returned (.bool (crB cs)) ∧ (∃ f', Row10 w' B g f' ∧ (crB cs = true → ∀ k, k < 10 → f' k = bump f cs k)) ∧ w.grownBy w' (some g) := by
  have HF := Lib.hid hf
  clear hf
  obtain ⟨w1, hw1⟩ : ∃ w1, w1 = w.alloc (.cells #[.slice A1 n1 c1, .slice A2 cs.length c2] 30) := ⟨_, rfl⟩
  have hb1 : Below w.heap.size w w1 := by rw [hw1]; exact (Below.refl _ _).alloc (Nat.le_refl _) _
  have hblk : Blk w1 w.heap.size 30 #[.slice A1 n1 c1, .slice A2 cs.length c2] := by rw [hw1]; exact Blk.new w _ _
  have hg1 : w.grownBy w1 (some g) := by rw [hw1]; exact ⟨rfl, rfl, rfl, by simp, fun k hk _ => Below.heap_alloc w _ k hk⟩
  have hr1 : Row10 w1 B g f := by rw [hw1]; exact hr.alloc _
  have h1 := h.below hb1
  have H1 := Lib.hid h1
  have HR1 := Lib.hid hr1
  have HG1 := Lib.hid hg1
  have HBlk := Lib.hid hblk
  go_enter Try.func73, Try.ntmps73
  go_wp2_with fail
  rw [← hw1]
  have hsz := hb1.size
  have hs1 : w.heap.size < w1.heap.size := hblk.lt
  clear hw1 hb1 hg1 hr1 h1 hr h hblk
  have e1 := HBlk.out.cell 1
  go_wp2_with fail
  go_loopg [5, 6, 10] (cs.length + 1) (fun gg s5 s6 s10 wr => ∃ (j : Nat) (f' : Nat → Int), j ≤ cs.length ∧ s10 = .int .i64 j ∧ cs.length - j < gg ∧ Hid (crGo (cs.take j) (cs.drop j) = crB cs) ∧ Hid (Row10 wr B g f') ∧ Hid (∀ k, k < 10 → f' k = bump f (cs.take j) k) ∧ Hid (w.grownBy wr (some g)) ∧ Hid (Blk wr w.heap.size 30 #[.slice A1 n1 c1, .slice A2 cs.length c2]) ∧ Hid (Away wr g A2 cs))
  case atStart => exact ⟨0, f, Nat.zero_le _, rfl, by omega, rfl, HR1, (fun k _ => by simp [bump]), HG1, HBlk, H1⟩
  case round =>
    clear HR1 HG1 HBlk H1 e1 hs1 hsz
    obtain ⟨j, f', hj, rfl, hgg, HC, HR, HFj, HG, HB, HA⟩ := hrel
    cases gk with
    | zero => omega
    | succ gg =>
    have e1 := HB.out.cell 1
    by_cases hlt : j < cs.length
    · obtain ⟨b, off, y, rfl, hbw, HX, hcy, hym⟩ := HA.out.ints.at_ hlt
      have hcut : Ints wr (some ⟨b, off, none⟩) (cs.take j) := by have := HA.out.ints.cut 0 j; simpa using this
      have htl : (cs.take j).length = j := by rw [List.length_take]; omega
      have hcont : Calls Try.prog 87 #[.slice (some ⟨b, off, none⟩) j c2, .int .i64 y] wr fun e w' => e = .returned (.bool (decide (y ∈ cs.take j))) ∧ wr = w' := by
        have := slices_Contains (some ⟨b, off, none⟩) c2 (cs.take j) y wr hcut (by unfold maxLen; omega)
        rwa [htl] at this
      have HCONT := Lib.hid hcont
      have j1 : (j : Int) < (cs.length : Int) := by omega
      have j0 : (0 : Int) ≤ (j : Int) := by omega
      have j2 : (j : Int) ≤ (c2 : Int) := by omega
      have hgo : crGo (cs.take j) (y :: cs.drop (j + 1)) = crB cs := by rw [← HX.out]; exact HC.out
      have HGO := Lib.hid hgo
      have HG2 := HG.out
      clear hcut htl hcont hgo
      by_cases y0 : y < 0
      · have d0 : decide (y < 0) = true := by simp; omega
        have hfin : crB cs = false := by rw [← HGO.out, crGo, if_pos y0]
        have HFin := Lib.hid hfin
        clear hfin hym
        go_wp2_with fail
        go_ret
        exact ⟨ret_bool HFin.out.symm, ⟨f', HR.out, fun h => by rw [HFin.out] at h; cases h⟩, HG2⟩
      · have d0 : decide (y < 0) = false := by simp; omega
        by_cases y9 : 9 < y
        · have d9 : decide ((10 : Int) ≤ y) = true := by simp; omega
          have hfin : crB cs = false := by rw [← HGO.out, crGo, if_neg y0, if_pos y9]
          have HFin := Lib.hid hfin
          clear hfin hym
          go_wp2_with fail
          go_ret
          exact ⟨ret_bool HFin.out.symm, ⟨f', HR.out, fun h => by rw [HFin.out] at h; cases h⟩, HG2⟩
        · have d9 : decide ((10 : Int) ≤ y) = false := by simp; omega
          by_cases ym : y ∈ cs.take j
          · have hfin : crB cs = false := by rw [← HGO.out, crGo, if_neg y0, if_neg y9, if_pos ym]
            have HFin := Lib.hid hfin
            have HYM := Lib.hid ym
            clear hfin hym ym
            go_wp2_with fail
            refine HCONT.out.mono ?_
            rintro e w' ⟨rfl, rfl⟩
            rw [decide_eq_true HYM.out]
            go_wp2_with fail
            go_ret
            exact ⟨ret_bool HFin.out.symm, ⟨f', HR.out, fun h => by rw [HFin.out] at h; cases h⟩, HG2⟩
          · obtain ⟨m, rfl⟩ : ∃ m : Nat, y = (m : Int) := ⟨y.toNat, by omega⟩
            have m10 : m < 10 := by omega
            have c10 := HR.out.cellAt m (by omega)
            rw [List.getElem?_map, rowF_get f' m10] at c10
            have f10 := HR.out.frozenAt m
            have hfm := HFj.out m m10
            have hbm : bump f (cs.take j) m = f m := by unfold bump; rw [if_neg ym]; omega
            have hfb := HF.out m m10
            have st := HR.out.stored m (.int .i64 (f' m + 1))
            rw [map_set_int, rowF_set] at st
            have hst2 : ∀ k, k < 10 → (if k = m then f' m + 1 else f' k) = bump f (cs.take (j + 1)) k := by
              intro k hk
              have htk : cs.take (j + 1) = cs.take j ++ [(m : Int)] := by
                rw [List.take_succ_eq_append_getElem hlt]
                congr 2
                have h3 := List.drop_eq_getElem_cons hlt
                rw [HX.out] at h3
                injection h3 with h3
                exact h3.symm
              rw [htk]
              unfold bump
              by_cases e : k = m
              · subst e
                rw [if_pos rfl, if_pos (by simp), hfm, hbm]
              · rw [if_neg e, HFj.out k hk]
                unfold bump
                have hkm : ¬ (k : Int) = (m : Int) := by omega
                simp only [List.mem_append, List.mem_singleton, hkm, or_false]
            have hcg : crGo (cs.take (j + 1)) (cs.drop (j + 1)) = crB cs := by
              have htk : cs.take (j + 1) = cs.take j ++ [(m : Int)] := by
                rw [List.take_succ_eq_append_getElem hlt]
                congr 2
                have h3 := List.drop_eq_getElem_cons hlt
                rw [HX.out] at h3
                injection h3 with h3
                exact h3.symm
              rw [htk, ← HGO.out, crGo, if_neg y0, if_neg y9, if_neg ym]
            have hfval : 0 ≤ f' m ∧ f' m ≤ 1000000 := by rw [hfm, hbm]; exact hfb
            obtain ⟨v, hv⟩ : ∃ v, v = f' m := ⟨_, rfl⟩
            rw [← hv] at st hst2 hfval
            have c10' : wr.cell? ⟨g, m, none⟩ = some (.int .i64 v) := by rw [hv]; simpa using c10
            have hb3 : wr.grownBy (wr.setCell ⟨g, m, none⟩ (.int .i64 (v + 1))) (some g) := ⟨rfl, rfl, rfl, by simp, fun k _ hk => heap_setCell_other wr ⟨g, m, none⟩ k _ (fun e => hk (by have e' : k = g := e; rw [e']))⟩
            have ST := Lib.hid st.1
            have HF2 := Lib.hid hst2
            have HCG := Lib.hid hcg
            have HG3 := Lib.hid (HG2.trans hb3)
            have hne : w.heap.size ≠ g := by omega
            have HB3 := Lib.hid (HB.out.far (p := ⟨g, m, none⟩) hne (.int .i64 (v + 1)))
            have HA3 := Lib.hid (HA.out.grown hb3)
            have HYM := Lib.hid ym
            obtain ⟨hv0, hv1⟩ := hfval
            have m1 : (m : Int) < 10 := by omega
            have m0 : (0 : Int) ≤ (m : Int) := by omega
            clear st hst2 hcg hb3 hne HG HG2 HA HB HR HFj c10 hfm hbm hfb hv hym ym HC HGO
            go_wp2_with fail
            refine HCONT.out.mono ?_
            rintro e w' ⟨rfl, rfl⟩
            rw [decide_eq_false HYM.out]
            go_wp2_with fail
            go_roundg gg
            case measure => omega
            case rel => exact ⟨j + 1, _, by omega, by go_num, by omega, HCG, ST, HF2, HG3, HB3, HA3⟩
    · obtain rfl : j = cs.length := by omega
      have hfin : crB cs = true := by rw [← HC.out, List.drop_length, List.take_length]; rfl
      have HFin := Lib.hid hfin
      clear hfin
      go_wp2_with fail
      go_ret
      exact ⟨ret_bool HFin.out.symm, ⟨f', HR.out, fun _ k hk => by have := HFj.out k hk; rwa [List.take_length] at this⟩, HG.out⟩
end Go.Proofs.Ytnccpifdajcejaa
