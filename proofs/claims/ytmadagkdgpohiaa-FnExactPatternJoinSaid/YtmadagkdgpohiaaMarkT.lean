/- Marking vertices whose lists are rows of their own, told what they hold behind it; asking whether they still hold it. No condition but sizes. -/
import Derived.Test.YtmadagkdgpohiaaWithA
namespace Go.Proofs.Ytmadagkdgpohiaa
open Go.RowKit

/-- vertices with the numbers from k on in their places -/
def marksV : List Vx → Int → List Vx
  | [], _ => []
  | v :: r, k => (countFrom k v.1.length, countFrom (k + (v.1.length : Int)) v.2.length) :: marksV r (k + (v.1.length : Int) + (v.2.length : Int))
/-- how many numbers vertices have -/
def totV : List Vx → Int
  | [] => 0
  | v :: r => (v.1.length : Int) + (v.2.length : Int) + totV r
theorem marksV_len (vs : List Vx) (k : Int) : (marksV vs k).length = vs.length := by
  induction vs generalizing k with
  | nil => rfl
  | cons v r ih => rw [marksV, List.length_cons, List.length_cons, ih]
theorem totV_pos (vs : List Vx) : 0 ≤ totV vs := by
  induction vs with
  | nil => simp [totV]
  | cons v r ih => rw [totV]; omega
theorem totV_snoc (vs : List Vx) (v : Vx) : totV (vs ++ [v]) = totV vs + (v.1.length : Int) + (v.2.length : Int) := by
  induction vs with
  | nil => simp [totV]
  | cons u r ih => rw [List.cons_append, totV, totV, ih]; omega
theorem marksV_snoc (vs : List Vx) (v : Vx) (k : Int) : marksV (vs ++ [v]) k = marksV vs k ++ [(countFrom (k + totV vs) v.1.length, countFrom (k + totV vs + (v.1.length : Int)) v.2.length)] := by
  induction vs generalizing k with
  | nil => simp [marksV, totV]
  | cons u r ih =>
    rw [List.cons_append, marksV, marksV, ih, totV, List.cons_append]
    congr 4
    · congr 1; omega
    · congr 1; omega
theorem totV_le {vs : List Vx} {q : Nat} (h : ∀ v ∈ vs, v.1.length ≤ q ∧ v.2.length ≤ q) : totV vs ≤ 2 * (q : Int) * (vs.length : Int) := by
  induction vs with
  | nil => simp [totV]
  | cons v r ih =>
    rw [totV, List.length_cons]
    have h1 := h v (by simp)
    have h2 := ih fun u hu => h u (by simp [hu])
    have e : 2 * (q : Int) * ((r.length + 1 : Nat) : Int) = 2 * (q : Int) * (r.length : Int) + 2 * (q : Int) := by rw [Int.natCast_add, Int.mul_add]; simp
    omega
/-- the first j of them marked -/
def markTo (vs : List Vx) (k : Int) (j : Nat) : List Vx := marksV (vs.take j) k ++ vs.drop j
theorem markTo_len {vs : List Vx} {k : Int} {j : Nat} (h : j ≤ vs.length) : (markTo vs k j).length = vs.length := by
  unfold markTo; rw [List.length_append, marksV_len, List.length_take, List.length_drop]; omega
theorem markTo_zero (vs : List Vx) (k : Int) : markTo vs k 0 = vs := by simp [markTo, marksV]
theorem markTo_all (vs : List Vx) (k : Int) : markTo vs k vs.length = marksV vs k := by simp [markTo]
theorem markTo_at {vs : List Vx} {k : Int} {j : Nat} (h : j < vs.length) : (markTo vs k j)[j]? = some vs[j] := by
  unfold markTo
  have hl : (marksV (vs.take j) k).length = j := by rw [marksV_len, List.length_take]; omega
  rw [List.getElem?_append_right (by omega), hl, Nat.sub_self, List.getElem?_drop, Nat.add_zero, List.getElem?_eq_getElem h]
theorem markTo_next {vs : List Vx} {k : Int} {j i : Nat} (h : j < vs.length) :
    (markTo vs k (j + 1))[i]? = if i = j then some (countFrom (k + totV (vs.take j)) vs[j].1.length, countFrom (k + totV (vs.take j) + (vs[j].1.length : Int)) vs[j].2.length) else (markTo vs k j)[i]? := by
  unfold markTo
  have hl : (marksV (vs.take j) k).length = j := by rw [marksV_len, List.length_take]; omega
  rw [List.take_succ_eq_append_getElem h, marksV_snoc, List.append_assoc]
  by_cases e : i = j
  · subst e
    rw [if_pos rfl, List.getElem?_append_right (by omega), hl, Nat.sub_self]; rfl
  · rw [if_neg e]
    by_cases hi : i < j
    · rw [List.getElem?_append_left (by omega), List.getElem?_append_left (by omega)]
    · rw [List.getElem?_append_right (by omega), hl, List.singleton_append, List.getElem?_cons, if_neg (by omega), List.getElem?_append_right (by omega), hl, List.getElem?_drop, List.getElem?_drop]
      congr 1
      omega
/-- from block g on, up to block H -/
def Touch (g H : Nat) (w w' : World) : Prop := Below g w w' ∧ ∀ b, H ≤ b → b < w.heap.size → w'.heap[b]? = w.heap[b]?
theorem Touch.refl (g H : Nat) (w : World) : Touch g H w w := ⟨Below.refl _ _, fun _ _ _ => rfl⟩
theorem Touch.row {g H : Nat} {w w1 w2 : World} {v : Value} (h : Touch g H w w1) (hg : w1.grownBy w2 v.ownBlock) (hq : ∀ q, v.ownBlock = some q → g ≤ q ∧ q < H) (hs : g ≤ w1.heap.size) : Touch g H w w2 := by
  refine ⟨h.1.grown hg hs fun q hh => (hq q hh).1, fun b hb hlt => ?_⟩
  rw [hg.block b (Nat.lt_of_lt_of_le hlt h.1.size) (fun e => by have := (hq b e.symm).2; omega)]
  exact h.2 b hb hlt
theorem Touch.own {g H B : Nat} {w w' : World} {e : TypeId} {z n : Nat} {v : Value} {xs : List Value} (h : Touch g H w w') (ho : w.ownsRow B e z v n xs) (hv : ∀ q, v.ownBlock = some q → q < g ∨ H ≤ q) : w'.ownsRow B e z v n xs := by
  refine ⟨ho.1, ?_⟩
  rcases ho.2 with h0 | ⟨q, cap, cur, e1, hb, hq, rest⟩
  · exact Or.inl h0
  · refine Or.inr ⟨q, cap, cur, e1, hb, ?_, rest⟩
    rw [← hq]
    have hlt : q < w.heap.size := (Array.getElem?_eq_some_iff.1 hq).1
    rcases hv q (by rw [e1]; rfl) with h1 | h1
    · exact h.1.block q h1
    · exact h.2 q h1 hlt

set_option maxHeartbeats 2000000 in
theorem laws_markVertexT (B g H : Nat) (L : List Value) (vs : List Vx) (k : Int) (w : World) (hr : RowV w B g vs.length L) (hm : RowOw w g H vs L vs.length) (hl : vs.length ≤ 1048576) (hs : ∀ v ∈ vs, v.1.length ≤ 1048576 ∧ v.2.length ≤ 1048576) (hk0 : 0 ≤ k) (hk1 : k ≤ 3000000000000) :
    Calls Try.prog 22 #[.slice (some ⟨g, 0, none⟩) vs.length vs.length, .int .i64 k] w fun e w' => e = .returned (.int .i64 (k + totV vs)) ∧ RowV w' B g vs.length L ∧ RowOw w' g H (marksV vs k) L vs.length ∧ Touch (g + 1) H w w' := by
  have HR := Lib.hid hr
  have HM := Lib.hid hm
  have HSz := Lib.hid hs
  have hgs : g < w.heap.size := (hr.lt _ rfl).2
  clear hr hm hs
  go_enter Try.func22, Try.ntmps22
  go_wp2_with fail
  go_loopg [1, 5] (vs.length + 1) (fun gg s1 s5 wr => ∃ (j : Nat) (m : Int), j ≤ vs.length ∧ s5 = .int .i64 j ∧ s1 = .int .i64 m ∧ Hid (m = k + totV (vs.take j)) ∧ k ≤ m ∧ m ≤ 3000000000000 + 2097152 * (j : Int) ∧ vs.length - j < gg ∧ Hid (RowV wr B g vs.length L) ∧ Hid (Touch (g + 1) H w wr) ∧ Hid (RowOw wr g H (markTo vs k j) L vs.length))
  case atStart => exact ⟨0, k, Nat.zero_le _, rfl, rfl, by show _ = _; simp [totV], by omega, by omega, by omega, HR, Touch.refl _ _ _, by rw [markTo_zero]; exact HM⟩
  case round =>
    obtain ⟨j, m, hj, rfl, rfl, HMm, hm0, hm1, hg, HR2, HT, HO⟩ := hrel
    cases gk with
    | zero => omega
    | succ gg =>
    clear HR HM
    by_cases hlt : j < vs.length
    · obtain ⟨xs, cs, hv⟩ : ∃ xs cs, vs[j] = (xs, cs) := ⟨_, _, rfl⟩
      obtain ⟨z1, z2⟩ := HSz.out vs[j] (List.getElem_mem hlt)
      rw [hv] at z1 z2
      have z1' : xs.length ≤ 1048576 := z1
      have z2' : cs.length ≤ 1048576 := z2
      obtain ⟨U, V, e1, e2, o1, o2⟩ := HO.out.1 j (xs, cs) hlt (by rw [markTo_at hlt, hv])
      have o1' : Own wr (g + 1) U xs := o1
      have o2' : Own wr (g + 1) V cs := o2
      have c1 := HR2.out.cellAt (j * 2) (by omega)
      rw [e1] at c1
      have hgw : g < wr.heap.size := (HR2.out.lt _ rfl).2
      have j1 : (j : Int) < (vs.length : Int) := by omega
      have j0 : (0 : Int) ≤ (j : Int) := by omega
      have hU : ∀ q, U.ownBlock = some q → g + 1 ≤ q ∧ q < H := fun q hq => ⟨(o1'.lt q hq).1, HO.out.2.2 (j * 2) U q (by omega) e1 hq⟩
      have hV : ∀ q, V.ownBlock = some q → g + 1 ≤ q ∧ q < H := fun q hq => ⟨(o2'.lt q hq).1, HO.out.2.2 (j * 2 + 1) V q (by omega) e2 hq⟩
      have HE1 := Lib.hid e1
      have HE2 := Lib.hid e2
      have HU := Lib.hid hU
      have HV := Lib.hid hV
      have O1 := Lib.hid o1'
      have O2 := Lib.hid o2'
      have HVj := Lib.hid hv
      clear hv z1 z2 e1 e2 o1 o2 o1' o2' hU hV
      go_wp2_with fail
      refine (laws_markIntS (g + 1) U m xs wr O1.out z1' (by omega) (by omega)).mono ?_
      rintro e w2 ⟨rfl, p1, r1⟩
      have hR3 : RowV w2 B g vs.length L := HR2.out.kept r1 (Or.inr (by
        intro e
        have e' : some g = U.ownBlock := e
        have := HU.out g e'.symm
        omega))
      have c2 := hR3.cellAt (j * 2 + 1) (by omega)
      rw [HE2.out] at c2
      have hO2 : Own w2 (g + 1) V cs := O2.out.kept r1 (HO.out.2.1 (j * 2) (j * 2 + 1) U V (by omega) (by omega) HE1.out HE2.out)
      have t2 : Touch (g + 1) H w w2 := HT.out.row r1 HU.out (by omega)
      have hgw2 : g < w2.heap.size := (hR3.lt _ rfl).2
      have HR3 := Lib.hid hR3
      have T2 := Lib.hid t2
      have HO2 := Lib.hid hO2
      have P1 := Lib.hid p1
      have G1 := Lib.hid r1
      clear hR3 hO2 t2 p1 r1 HR2 HT O1 O2 c1
      go_wp2_with fail
      refine (laws_markIntS (g + 1) V (m + (xs.length : Int)) cs w2 HO2.out z2' (by omega) (by omega)).mono ?_
      rintro e w3 ⟨rfl, p2, r2⟩
      have hR4 : RowV w3 B g vs.length L := HR3.out.kept r2 (Or.inr (by
        intro e
        have e' : some g = V.ownBlock := e
        have := HV.out g e'.symm
        omega))
      have t3 : Touch (g + 1) H w w3 := T2.out.row r2 HV.out (by omega)
      have hM2 : m + (xs.length : Int) + (cs.length : Int) = k + totV (vs.take (j + 1)) := by
        rw [List.take_succ_eq_append_getElem hlt, totV_snoc, HVj.out, HMm.out]; dsimp only; omega
      have hOw : RowOw w3 g H (markTo vs k (j + 1)) L vs.length := by
        refine ⟨fun i v hi hv => ?_, HO.out.2.1, HO.out.2.2⟩
        rw [markTo_next hlt] at hv
        by_cases e : i = j
        · rw [if_pos e, ← HMm.out, HVj.out] at hv
          have hv2 := Option.some.inj hv
          subst hv2 e
          refine ⟨U, V, HE1.out, HE2.out, ?_, ?_⟩
          · have h1 : Own w2 (g + 1) U (countFrom m xs.length) := P1.out
            exact h1.kept r2 (by
              rcases HO.out.2.1 (i * 2) (i * 2 + 1) U V (by omega) (by omega) HE1.out HE2.out with h | h
              · cases hu : U.ownBlock with
                | none => exact Or.inl rfl
                | some q => right; rw [h]; simp
              · exact Or.inr (fun e => h e.symm))
          · show Own w3 (g + 1) V (countFrom (m + (xs.length : Int)) cs.length)
            exact p2
        · rw [if_neg e] at hv
          obtain ⟨X, Y, a1, a2, a3, a4⟩ := HO.out.1 i v hi hv
          have far : ∀ p q P Q, p < vs.length * 2 → q < vs.length * 2 → p ≠ q → L[p]? = some P → L[q]? = some Q → Q.ownBlock = none ∨ Q.ownBlock ≠ P.ownBlock := by
            intro p q P Q hp hq hne hP hQ
            rcases Nat.lt_or_ge p q with h | h
            · exact HO.out.2.1 p q P Q h hq hP hQ
            · rcases HO.out.2.1 q p Q P (by omega) hp hQ hP with h2 | h2
              · cases hQ' : Q.ownBlock with
                | none => exact Or.inl rfl
                | some b => right; rw [h2]; simp
              · exact Or.inr (fun e => h2 e.symm)
          exact ⟨X, Y, a1, a2, (a3.kept G1.out (far (j * 2) (i * 2) U X (by omega) (by omega) (by omega) HE1.out a1)).kept r2 (far (j * 2 + 1) (i * 2) V X (by omega) (by omega) (by omega) HE2.out a1),
            (a4.kept G1.out (far (j * 2) (i * 2 + 1) U Y (by omega) (by omega) (by omega) HE1.out a2)).kept r2 (far (j * 2 + 1) (i * 2 + 1) V Y (by omega) (by omega) (by omega) HE2.out a2)⟩
      have HR4 := Lib.hid hR4
      have T3 := Lib.hid t3
      have HM2 := Lib.hid hM2
      have HOW := Lib.hid hOw
      clear hR4 t3 hM2 hOw p2 r2 HR3 T2 HO2 P1 G1 c2 HO HMm
      go_wp2_with fail
      go_roundg gg
      case measure => omega
      case rel => exact ⟨j + 1, m + (xs.length : Int) + (cs.length : Int), by omega, by go_num, by congr 1, HM2, by omega, by omega, by omega, HR4, T3, HOW⟩
    · obtain rfl : j = vs.length := by omega
      have hO := HO.out
      rw [markTo_all] at hO
      have hM := HMm.out
      rw [List.take_length] at hM
      have HM3 := Lib.hid hM
      have HO3 := Lib.hid hO
      clear hM hO
      go_wp2_with fail
      go_ret
      exact ⟨ret_int HM3.out, HR2.out, HO3.out, HT.out⟩
theorem marksV_get {vs : List Vx} {k : Int} {j : Nat} (h : j < vs.length) : (marksV vs k)[j]? = some (countFrom (k + totV (vs.take j)) vs[j].1.length, countFrom (k + totV (vs.take j) + (vs[j].1.length : Int)) vs[j].2.length) := by
  induction vs generalizing k j with
  | nil => simp at h
  | cons v r ih =>
    cases j with
    | zero => simp [marksV, totV]
    | succ j =>
      rw [marksV, List.getElem?_cons_succ, ih (by simpa using h), List.take_succ_cons, totV]
      simp only [List.getElem_cons_succ]
      congr 3
      · omega
      · omega
set_option maxHeartbeats 1000000 in
theorem laws_heldVertexS (A : Option Addr) (cap : Nat) (vs : List Vx) (k : Int) (w : World) (h : Verts w A (marksV vs k)) (hl : vs.length ≤ 1048576) (hs : ∀ v ∈ vs, v.1.length ≤ 1048576 ∧ v.2.length ≤ 1048576) (hk0 : 0 ≤ k) (hk1 : k ≤ 3000000000000) :
    Calls Try.prog 27 #[.slice A vs.length cap, .int .i64 k] w fun e w' => e = .returned (.int .i64 (k + totV vs)) ∧ w = w' := by
  have HSz := Lib.hid hs
  clear hs
  go_enter Try.func27, Try.ntmps27
  go_wp2_with fail
  go_loop [1, 5] (fun s1 s5 => ∃ (j : Nat) (m : Int), j ≤ vs.length ∧ s5 = .int .i64 j ∧ s1 = .int .i64 m ∧ Hid (m = k + totV (vs.take j)) ∧ k ≤ m ∧ m ≤ 3000000000000 + 2097152 * (j : Int)) (fun _ s5 => vs.length - (intOf s5).toNat)
  case atStart => exact ⟨0, k, Nat.zero_le _, rfl, rfl, by show _ = _; simp [totV], by omega, by omega⟩
  case round =>
    obtain ⟨j, m, hj, rfl, rfl, HMm, hm0, hm1⟩ := hrel
    by_cases hlt : j < vs.length
    · obtain ⟨b, off, hA, hb, hc⟩ := h (by intro e; have := marksV_len vs k; rw [e] at this; simp at this; omega)
      subst hA
      obtain ⟨U, V, r1, r2, ⟨A1, c1, rfl, i1, l1, m1⟩, ⟨A2, c2, rfl, i2, l2, m2⟩⟩ := hc j _ (marksV_get hlt)
      obtain ⟨z1, z2⟩ := HSz.out vs[j] (List.getElem_mem hlt)
      obtain ⟨n1, hn1⟩ : ∃ n1, n1 = vs[j].1.length := ⟨_, rfl⟩
      obtain ⟨n2, hn2⟩ : ∃ n2, n2 = vs[j].2.length := ⟨_, rfl⟩
      have hM2 : m + (n1 : Int) + (n2 : Int) = k + totV (vs.take (j + 1)) := by
        rw [List.take_succ_eq_append_getElem hlt, totV_snoc, HMm.out, hn1, hn2]; omega
      rw [← HMm.out, ← hn1] at r1 i1 r2 i2
      rw [← hn2] at r2 i2
      simp only [countFrom_len] at r1 r2
      rw [← hn1] at z1
      rw [← hn2] at z2
      have I1 := Lib.hid i1
      have I2 := Lib.hid i2
      have HM2 := Lib.hid hM2
      have j1 : (j : Int) < (vs.length : Int) := by omega
      have d1 : decide (m + (n1 : Int) < 0) = false := by simp; omega
      have d2 : decide (m + (n1 : Int) + (n2 : Int) < 0) = false := by simp; omega
      clear i1 i2 hM2 hn1 hn2 l1 l2 m1 m2 hc
      go_wp2_with fail
      refine (laws_heldIntS A1 c1 m n1 w I1.out z1 (by omega) (by omega)).mono ?_
      rintro e w' ⟨rfl, rfl⟩
      go_wp2_with fail
      refine (laws_heldIntS A2 c2 (m + (n1 : Int)) n2 w I2.out z2 (by omega) (by omega)).mono ?_
      rintro e w' ⟨rfl, rfl⟩
      go_wp2_with fail
      go_round
      case rel => exact ⟨j + 1, m + (n1 : Int) + (n2 : Int), by omega, by go_num, rfl, HM2, by omega, by omega⟩
      case measure => simp [intOf]; omega
    · obtain rfl : j = vs.length := by omega
      have hM := HMm.out
      rw [List.take_length] at hM
      have HM3 := Lib.hid hM
      clear hM
      go_wp2_with fail
      go_ret
      exact ⟨ret_int HM3.out, rfl⟩
end Go.Proofs.Ytmadagkdgpohiaa
