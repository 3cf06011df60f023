/- An allowed crimp, told on words: lengths, sums, balance, what folds. No condition. -/
import Derived.Test.YtmohfibgefcefaaGreatDoorConfC
import Derived.Test.YtmohfibgefcefaaGreatDoorImplD
namespace Go.Proofs.YtmohfibgefcefaaGreatDoor

theorem vcrX_len (xs : List Int) (i : Nat) : (vcrX xs i).length = xs.length - 2 := angTo_len _ _
theorem vcrF_size (xs : List Int) (s : ByteArray) (i : Nat) : (vcrF xs s i).size = xs.length - 2 := by
  show (List.toArray _).size = _
  rw [List.size_toArray, folTo_len]
theorem crimp_word {xs : List Int} {s : ByteArray} {i : Int} (h : i ∈ vcL xs s) : Step (wl xs s.data.toList) (wl (vcrX xs i.toNat) (vcrF xs s i.toNat).data.toList) := by
  obtain ⟨ha, hf, h0, hi, h4, hal⟩ := vcL_mem h
  have hsz := fvB_size hf
  rw [← seg_word hsz.symm, ← seg_word (by rw [vcrX_len, vcrF_size]), vcrX_len]
  have hst := crimp_step hi hal
  have e : seg (crimpX xs.length (angleAt xs) i.toNat) (fun k => byteAt s (sig xs.length i.toNat k)) 0 (xs.length - 2) = seg (angleAt (vcrX xs i.toNat)) (byteAt (vcrF xs s i.toNat)) 0 (xs.length - 2) := by
    apply seg_congr
    · intro k hk
      rw [Nat.zero_add]
      exact (angleAt_angTo (crimpX xs.length (angleAt xs) i.toNat) hk).symm
    · intro k hk
      rw [Nat.zero_add]
      exact (byteAt_folTo (fun k => byteAt s (sig xs.length i.toNat k)) hk (byteAt_lt _ _)).symm
  rw [← e]
  exact hst
theorem wl_X {x : Int} : ∀ {ys : List Int} {es : List UInt8}, ys.length = es.length → (Ltr.X x ∈ wl ys es ↔ x ∈ ys) := by
  intro ys
  induction ys with
  | nil => intro es h; simp [wl]
  | cons y ys ih =>
    intro es h
    cases es with
    | nil => simp at h
    | cons e es => simp [wl, ih (show ys.length = es.length by simpa using h)]
structure CrimpFacts (xs : List Int) (s : ByteArray) (j : Nat) : Prop where
  idx : j < xs.length
  four : 4 ≤ xs.length
  av : avB xs = true
  fv : fvB s.data.toList xs.length = true
  sum : (vcrX xs j).sum = 360 - 2 * angleAt xs j
  low : ∀ x ∈ vcrX xs j, angleAt xs j ≤ x
  high : ∀ x ∈ vcrX xs j, x ≤ 1000
  one : 1 ≤ angleAt xs j ∧ angleAt xs j ≤ 360
  alt : decide (altS (vcrX xs j) = 0) = acB xs
  bal : balT (vcrF xs s j).data.toList = balT s.data.toList
  mv : ∀ c ∈ (vcrF xs s j).data.toList, mvB c = true
  down : Down (wl xs s.data.toList) ↔ Down (wl (vcrX xs j) (vcrF xs s j).data.toList)
theorem crimp_facts {xs : List Int} {s : ByteArray} {i : Int} (h : i ∈ vcL xs s) : CrimpFacts xs s i.toNat := by
  obtain ⟨ha, hf, h0, hi, h4, hal⟩ := vcL_mem h
  have hst := crimp_word h
  obtain ⟨ev, _, l10, hx, hsum⟩ := avB_parts ha
  have hfv := (fvB_iff _ _).1 hf
  have hl : xs.length = s.data.toList.length := by have := hfv.1; omega
  have hl2 : (vcrX xs i.toNat).length = (vcrF xs s i.toNat).data.toList.length := by rw [size_list, vcrX_len, vcrF_size]
  have hmin := ((allowed_iff hi).1 hal).2.2
  have hbin := wl_bin (xs := xs) hfv.2
  obtain ⟨b, hb1, hb2, hb3, hb4⟩ := hst.sums
  rw [xsOf_wl hl, xsOf_wl hl2] at hb4
  have hbx : b = angleAt xs i.toNat := by
    have p1 := hb2 _ ((wl_X hl).2 (angleAt_mem hi))
    have p2 := (wl_X hl).1 hb1
    obtain ⟨k, hk, e⟩ := List.getElem_of_mem p2
    have p3 := hmin k hk
    have e2 : angleAt xs k = xs[k] := by unfold angleAt; simp [List.getD_eq_getElem?_getD, hk]
    omega
  subst hbx
  have halt := hst.alt (by rw [xsOf_wl hl]; exact ev)
  rw [xsOf_wl hl, xsOf_wl hl2] at halt
  have hmv := hst.mvS hbin
  rw [mvS_wl hl, mvS_wl hl2] at hmv
  have hb' := hst.bin hbin
  refine ⟨hi, h4, ha, hf, by omega, fun x hx2 => hb3 x ((wl_X hl2).2 hx2), ?_, hx _ (angleAt_mem hi), ?_, hmv.symm, ?_, ?_⟩
  · intro x hx2
    unfold vcrX angTo at hx2
    obtain ⟨k, hk, rfl⟩ := List.mem_map.1 hx2
    rw [List.mem_range] at hk
    have q1 := hx _ (angleAt_mem (prv_lt hi))
    have q2 := hx _ (angleAt_mem (nxt_lt hi))
    have q3 := hx _ (angleAt_mem hi)
    have q4 := hx _ (angleAt_mem (sig_lt h4 hi hk).1)
    unfold crimpX
    split <;> omega
  · rw [Bool.eq_iff_iff, decide_eq_true_eq, acB_iff, ← halt.1]
    exact ⟨fun e => ⟨ha, e⟩, fun e => e.2⟩
  · intro c hc
    have : ∀ (ys : List Int) (es : List UInt8), ys.length = es.length → c ∈ es → Ltr.F c.toNat ∈ wl ys es := by
      intro ys
      induction ys with
      | nil => intro es h hc; cases es with
        | nil => cases hc
        | cons e es => simp at h
      | cons y ys ih =>
        intro es h hc
        cases es with
        | nil => cases hc
        | cons e es =>
          rcases List.mem_cons.1 hc with e1 | e1
          · subst e1; simp [wl]
          · simp [wl, ih es (by simpa using h) e1]
    have := hb' _ (this _ _ hl2 hc)
    unfold mvB
    simpa using this
  · have hlen : (wl xs s.data.toList).length % 4 = 0 := by
      have : ∀ (ys : List Int) (es : List UInt8), ys.length = es.length → (wl ys es).length = 2 * ys.length := by
        intro ys
        induction ys with
        | nil => intro es h; cases es <;> rfl
        | cons y ys ih =>
          intro es h
          cases es with
          | nil => simp at h
          | cons e es => simp [wl, ih es (by simpa using h)]; omega
      rw [this _ _ hl]; omega
    exact down_iff hst hlen hbin
theorem CrimpFacts.ring {xs : List Int} {s : ByteArray} {j : Nat} (h : CrimpFacts xs s j) (h6 : (vcrX xs j).length ≤ 6) (ha : acB xs = true) : rfB (vcrX xs j) (vcrF xs s j) = vfB xs s := by
  rw [Bool.eq_iff_iff, rfB_down, vfB_down]
  have hv := avB_parts h.av
  have hlen := vcrX_len xs j
  have hr : rvB (vcrX xs j) (vcrF xs s j).data.toList = true := by
    unfold rvB lvB
    simp only [Bool.and_eq_true, decide_eq_true_eq, List.all_eq_true]
    have h4 := h.four
    refine ⟨⟨⟨⟨⟨by omega, h6⟩, fun x hx => ⟨?_, h.high x hx⟩⟩, by omega⟩, ?_⟩, ?_⟩
    · have := h.low x hx; have := h.one.1; omega
    · rw [fvB_iff]
      exact ⟨by rw [size_list, vcrF_size, hlen], h.mv⟩
    · rw [balB_alt, h.alt, ha]
  exact ⟨fun ⟨_, d⟩ => ⟨ha, h.fv, h.down.2 d⟩, fun ⟨_, _, d⟩ => ⟨hr, h.down.1 d⟩⟩
end Go.Proofs.YtmohfibgefcefaaGreatDoor
