/- The line that tells angles: the laws' own. No condition but sizes. A vertex is folded from end to end: the walk of the law. No condition but what the row says of memory, and sizes. -/
import Derived.Test.YtmohfibgefcefaaGreatDoorFnExecuteCrimpP51
import Derived.Test.YtmohfibgefcefaaGreatDoorFnExecuteCrimpP48
import Derived.Test.YtmohfibgefcefaaGreatDoorDrawD
import Derived.Test.YtmohfibgefcefaaGreatDoorEqPlain
namespace Go.Proofs.YtmohfibgefcefaaGreatDoor
open Go.RowKit

theorem run_addT (a b c : List UInt8) (h : a ++ b = c) (hl : a.length + b.length ≤ 1000000) (W : World) : (Op.stringOp .add (btj a) (btj b)).run Tryz.prog W = .ok (.string (btj c)) W := by
  have e1 : (btj a).size = a.length := by show a.toArray.size = _; simp
  have e2 : (btj b).size = b.length := by show b.toArray.size = _; simp
  rw [run_string_add_sum W _ _ (by rw [e1, e2]; omega), ← h]
  exact congrArg (fun x => Result.ok (Value.string x) W) (ByteArray.mk_append_mk a b)
/-- numbers behind a word, each with a blank ahead -/
def numsT (xs : List Int) : List UInt8 := xs.flatMap fun x => 32 :: Lib.decDigits x.toNat
/-- the line that tells angles -/
def angT (xs : List Int) : List UInt8 := [97, 110, 103, 108, 101, 115] ++ numsT xs ++ [10]
theorem numsT_take {xs : List Int} {k : Nat} (hk : k < xs.length) : numsT (xs.take (k + 1)) = (numsT (xs.take k) ++ [32]) ++ Lib.decDigits xs[k].toNat := by
  rw [List.take_succ_eq_append_getElem hk]
  unfold numsT
  rw [List.flatMap_append]; simp
theorem numsT_len {xs : List Int} (h : ∀ x ∈ xs, 0 ≤ x ∧ x < 10000) : (numsT xs).length ≤ xs.length * 5 := by
  induction xs with
  | nil => simp [numsT]
  | cons x r ih =>
    have h1 := decDigits_four (n := x.toNat) (by have := h x (by simp); omega)
    have h2 := ih fun y hy => h y (by simp [hy])
    unfold numsT at h2 ⊢
    rw [List.flatMap_cons, List.length_append, List.length_cons, List.length_cons]
    omega
theorem numsT_join (x0 : List UInt8) (xs : List Int) : joinC 32 (x0 :: xs.map fun x => Lib.decDigits x.toNat) = x0 ++ numsT xs := by
  induction xs generalizing x0 with
  | nil => simp [joinC, numsT]
  | cons x r ih =>
    show x0 ++ 32 :: joinC 32 (Lib.decDigits x.toNat :: r.map fun x => Lib.decDigits x.toNat) = _
    rw [ih]
    unfold numsT
    rw [List.flatMap_cons]; simp
set_option maxHeartbeats 2000000 in
set_option maxRecDepth 100000 in
theorem laws_anglesLine (A : Option Addr) (c : Nat) (xs : List Int) (w : World) (h : Ints w A xs) (hl : xs.length ≤ 20) (hx : ∀ x ∈ xs, 0 ≤ x ∧ x < 10000) :
    Calls Tryz.prog 17 #[.slice A xs.length c] w fun e w' => e = .returned (.string (btj (angT xs))) ∧ Below w.heap.size w w' := by
  have HI := Lib.hid h
  have HX := Lib.hid hx
  clear h hx
  go_enter Tryz.func17, Tryz.ntmps17
  go_wp2_with fail
  go_loopg [3, 4] (xs.length + 1) (fun gg s3 s4 wr => ∃ (k : Nat), k ≤ xs.length ∧ s3 = .string (btj ([97, 110, 103, 108, 101, 115] ++ numsT (xs.take k))) ∧ s4 = .int .i64 k ∧ xs.length - k < gg ∧ Hid (Below w.heap.size w wr))
  case atStart => exact ⟨0, Nat.zero_le _, rfl, rfl, by omega, Below.refl _ _⟩
  case round =>
    obtain ⟨k, hk, rfl, rfl, hg, HB⟩ := hrel
    cases gk with
    | zero => omega
    | succ gl =>
    by_cases hlt : k < xs.length
    · have k1 : (k : Int) < (xs.length : Int) := by omega
      have k0 : (0 : Int) ≤ (k : Int) := by omega
      obtain ⟨b, off, x, rfl, hbb, hdr, hc, hxm⟩ := (HI.out.below HB.out).at_ hlt
      have hxe : xs[k] = x := by
        have := hdr.out
        rw [List.drop_eq_getElem_cons hlt] at this
        exact (List.cons.inj this).1
      have hxb := HX.out x hxm
      have hsucc := numsT_take hlt
      rw [hxe] at hsucc
      have hnl := numsT_len (xs := xs.take k) fun y hy => HX.out y (List.mem_of_mem_take hy)
      have hnl2 : (xs.take k).length ≤ 20 := by rw [List.length_take]; omega
      have hdl := decDigits_four (n := x.toNat) (by omega)
      have HD := Lib.hid (fun W : World => laws_digits (x.toNat + 1) x.toNat (by omega) (by omega) W)
      have exn : ((x.toNat : Nat) : Int) = x := by omega
      rw [exn] at HD
      obtain ⟨D, hD⟩ : ∃ D, D = Lib.decDigits x.toNat := ⟨_, rfl⟩
      obtain ⟨C, hC⟩ : ∃ C, C = [97, 110, 103, 108, 101, 115] ++ numsT (xs.take k) := ⟨_, rfl⟩
      obtain ⟨C', hC'⟩ : ∃ C', C' = [97, 110, 103, 108, 101, 115] ++ numsT (xs.take (k + 1)) := ⟨_, rfl⟩
      have hCl : C.length ≤ 200 := by rw [hC]; simp; omega
      rw [← hD] at HD hdl hsucc
      rw [← hC]
      have a1 : ∀ W, (Op.stringOp .add (btj C) (btj [32])).run Tryz.prog W = .ok (.string (btj (C ++ [32]))) W := fun W => run_addT _ _ _ rfl (by simp; omega) W
      have a2 : ∀ W, (Op.stringOp .add (btj (C ++ [32])) (btj D)).run Tryz.prog W = .ok (.string (btj C')) W := fun W => run_addT _ _ _ (by rw [hC', hsucc, hC]; simp) (by simp; omega) W
      have HC' := Lib.hid hC'
      clear hsucc hnl hnl2 hC hC' hD hdr hxe hxm exn hxb hCl hdl
      go_wp2_with fail
      refine (HD.out wr).mono ?_
      rintro e w6 ⟨rfl, hb6⟩
      have HB6 := Lib.hid (below_from HB.out hb6 HB.out.size)
      clear hb6 HB HD
      go_wp2_with fail
      go_roundg gl
      case measure => omega
      case rel => exact ⟨k + 1, by omega, by rw [HC'.out], by go_num, by omega, HB6⟩
    · obtain rfl : k = xs.length := by omega
      rw [List.take_of_length_le (Nat.le_refl _)]
      have hnl := numsT_len HX.out
      obtain ⟨C, hC⟩ : ∃ C, C = [97, 110, 103, 108, 101, 115] ++ numsT xs := ⟨_, rfl⟩
      have hCl : C.length ≤ 200 := by rw [hC]; simp; omega
      rw [← hC]
      have a1 : ∀ W, (Op.stringOp .add (btj C) (btj [10])).run Tryz.prog W = .ok (.string (btj (C ++ [10]))) W := fun W => run_addT _ _ _ rfl (by simp; omega) W
      have HE : Hid (C ++ [10] = angT xs) := by show _ = _; rw [hC]; rfl
      clear hC hnl hCl
      go_wp2_with fail
      go_ret
      exact ⟨by rw [← HE.out]; rfl, HB.out⟩
end Go.Proofs.YtmohfibgefcefaaGreatDoor
namespace Go.Proofs.YtmohfibgefcefaaGreatDoor
open Go.RowKit

theorem numsV_dec {xs : List Int} (h : ∀ x ∈ xs, 0 ≤ x ∧ x < 10000) : numsV (xs.map fun x => Lib.decDigits x.toNat) = xs := by
  unfold numsV
  rw [List.map_map]
  have : ∀ x ∈ xs, ((fun x => ((numV x : Nat) : Int)) ∘ fun x : Int => Lib.decDigits x.toNat) x = x := by
    intro x hx
    have := h x hx
    show ((numV (Lib.decDigits x.toNat) : Nat) : Int) = x
    rw [numV_dec (by omega)]; omega
  rw [List.map_congr_left this, List.map_id']
theorem dec_no32 (n : Nat) : (32 : UInt8) ∉ Lib.decDigits n := dec_no (by decide) (n + 1) n (by omega)
theorem dec_no10 (n : Nat) : (10 : UInt8) ∉ Lib.decDigits n := dec_no (by decide) (n + 1) n (by omega)
theorem joinC_no {c d : UInt8} (hcd : c ≠ d) : ∀ ws : List (List UInt8), (∀ w ∈ ws, c ∉ w) → c ∉ joinC d ws := by
  intro ws
  induction ws with
  | nil => intro _; simp [joinC]
  | cons x r ih =>
    intro h
    cases r with
    | nil => exact h x (by simp)
    | cons y r =>
      show c ∉ x ++ d :: joinC d (y :: r)
      rw [List.mem_append, List.mem_cons]
      rintro (h1 | h1 | h1)
      · exact h x (by simp) h1
      · exact hcd h1
      · exact ih (fun w hw => h w (by simp [hw])) h1
/-- the line that tells angles, as words -/
def angWs (xs : List Int) : List (List UInt8) := [97, 110, 103, 108, 101, 115] :: xs.map fun x => Lib.decDigits x.toNat
theorem ang_line (xs : List Int) : joinC 32 (angWs xs) ++ [10] = angT xs := by
  unfold angWs
  rw [numsT_join]; rfl
theorem angWs_no32 (xs : List Int) : ∀ y ∈ angWs xs, (32 : UInt8) ∉ y := by
  intro y hy
  rcases List.mem_cons.1 hy with rfl | hy
  · decide
  · obtain ⟨x, _, rfl⟩ := List.mem_map.1 hy
    exact dec_no32 _
theorem angWs_no10 (xs : List Int) : ∀ y ∈ angWs xs, (10 : UInt8) ∉ y := by
  intro y hy
  rcases List.mem_cons.1 hy with rfl | hy
  · decide
  · obtain ⟨x, _, rfl⟩ := List.mem_map.1 hy
    exact dec_no10 _
theorem angWs_len {xs : List Int} (h : ∀ x ∈ xs, 0 ≤ x ∧ x < 10000) : (joinC 32 (angWs xs)).length ≤ 6 + xs.length * 5 := by
  unfold angWs
  rw [numsT_join, List.length_append]
  have := numsT_len h
  simp; omega
set_option maxRecDepth 100000 in
/-- the desk's angles are told: the line of angles -/
theorem line_angles (td : Nat) (m : Int) (xs xs0 : List Int) (f0 : List UInt8) (hv : avB xs = true) (w : World) (hm : w.cell? ⟨0, 0, none⟩ = some (.int .i64 m)) (h0 : 0 < w.heap.size) (hp : Pow w) (hD : Desk w td xs0 f0) :
    Calls Tryz.prog 37 #[.pointer (some ⟨td, 0, none⟩), .string (btj (joinC 32 (angWs xs)))] w fun e w' => e = .returned (.string (btj [111, 107])) ∧ w.grownBy w' (some td) ∧ Desk w' td xs [] := by
  obtain ⟨_, p2, p3, p4, _⟩ := avB_parts hv
  have hx : ∀ x ∈ xs, 0 ≤ x ∧ x < 10000 := fun x h => by have := p4 x h; omega
  have hnv := numsV_dec hx
  have hl := angWs_len hx
  have hml : (xs.map fun x => Lib.decDigits x.toNat).length = xs.length := by simp
  have h32 := angWs_no32 xs
  unfold angWs at h32 hl ⊢
  obtain ⟨ds, hds⟩ : ∃ ds, ds = xs.map fun x => Lib.decDigits x.toNat := ⟨_, rfl⟩
  rw [← hds] at hnv hml h32 hl ⊢
  refine impl_line td [97, 110, 103, 108, 101, 115] ds 0 (by decide) m [111, 107] [111, 107] true rfl xs0 xs f0 [] w hm h0 hp hD h32 (Nat.le_trans hl (by omega)) (by
    rw [hml]
    unfold cmdIs
    simp only [Bool.and_eq_true, decide_eq_true_eq]
    exact ⟨⟨by decide, by show 1 ≤ _; omega⟩, by show _ ≤ 301; omega⟩) fun b o W hpW hDW ho hB => ?_
  obtain rfl : o = 1 := ho (by intro e; rw [e] at hml; simp at hml; omega)
  have := impl_setAngles_yes td ds.length (some ⟨b, 1, none⟩) ds xs0 f0 W hDW (strs_words hB) (by rw [hml]; omega) (by rw [hnv]; exact hv)
  rw [hnv] at this
  exact this
set_option maxRecDepth 100000 in
/-- the desk's folds are told -/
theorem line_folds (td : Nat) (m : Int) (xs : List Int) (F f0 : List UInt8) (hn : 1 ≤ xs.length) (hF : fvB F xs.length = true) (hF32 : (32 : UInt8) ∉ F) (hFl : F.length ≤ 200) (w : World) (hm : w.cell? ⟨0, 0, none⟩ = some (.int .i64 m)) (h0 : 0 < w.heap.size) (hp : Pow w) (hD : Desk w td xs f0) :
    Calls Tryz.prog 37 #[.pointer (some ⟨td, 0, none⟩), .string (btj (joinC 32 [[102, 111, 108, 100, 115], F]))] w fun e w' => e = .returned (.string (btj [111, 107])) ∧ w.grownBy w' (some td) ∧ Desk w' td xs F := by
  refine impl_line td [102, 111, 108, 100, 115] [F] 1 (by decide) m [111, 107] [111, 107] true rfl xs xs f0 F w hm h0 hp hD (by
    intro y hy
    simp only [List.mem_cons, List.not_mem_nil, or_false] at hy
    rcases hy with rfl | rfl
    · decide
    · exact hF32) (by simp [joinC]; omega) rfl fun b o W hpW hDW ho hB => ?_
  obtain rfl : o = 1 := ho (by simp)
  exact impl_setFolds_yes td b 0 1 F xs f0 W hDW ((hB.cell 1).trans (wordsV_get (ws := [[102, 111, 108, 100, 115], F]) (k := 1) rfl)) (by omega) hn hF
/-- the lines of a vertex' script -/
def lsV (xs : List Int) (F : List UInt8) : List (List UInt8) := [joinC 32 (angWs xs), [109, 97, 110, 121], [102, 105, 114, 115, 116], joinC 32 [[102, 111, 108, 100, 115], F], [116, 101, 115, 116]]
def stV (xs : List Int) (F : List UInt8) (k : Nat) : List Int × List UInt8 := if k = 0 then ([], []) else if k ≤ 3 then (xs, []) else (xs, F)
def outV (xs : List Int) (F : List UInt8) (k : Nat) : List UInt8 := ([[111, 107], Lib.decDigits (cntV xs (2 ^ xs.length)), F, [111, 107], [102, 111, 108, 100, 115]][k]?).getD []
set_option maxHeartbeats 1000000 in
set_option maxRecDepth 100000 in
theorem exec_vertex (m : Int) (xs : List Int) (r : Nat) (hv : vfo xs = some r) (w : World) (hm : w.cell? ⟨0, 0, none⟩ = some (.int .i64 m)) (h0 : 0 < w.heap.size) (hp : Pow w) :
    Calls Tryz.prog 13 #[.string (btj (scr (lsV xs (vfoT xs).data.toList)))] w fun e w' => e = .returned (.string (btj ([111, 107, 10] ++ Lib.decDigits (cntV xs (2 ^ xs.length)) ++ [10] ++ (vfoT xs).data.toList ++ [10, 111, 107, 10, 102, 111, 108, 100, 115, 10, 97, 110, 103, 108, 101, 115, 32] ++ Lib.decDigits xs.length ++ [10]))) ∧ Below w.heap.size w w' := by
  obtain ⟨hav, hr, hvf, _⟩ := vfo_some hv
  obtain ⟨_, p2, p3, p4, _⟩ := avB_parts hav
  have hT : vfoT xs = txt xs.length r := by unfold vfoT; rw [hv]
  obtain ⟨F, hF⟩ : ∃ F, F = (vfoT xs).data.toList := ⟨_, rfl⟩
  have hFT : vfoT xs = btj F := by rw [hF]
  have hFl : F.length = xs.length := by rw [hF, hT]; exact txtL_len _ _
  rw [← hT, hFT] at hvf
  have hFv : fvB F xs.length = true := by
    unfold vfB at hvf
    simp only [Bool.and_eq_true] at hvf
    exact hvf.1.2
  have hmv := ((fvB_iff _ _).1 hFv).2
  have hno : ∀ c : UInt8, mvB c = false → c ∉ F := fun c hc h => by rw [hmv c h] at hc; cases hc
  have hx : ∀ x ∈ xs, 0 ≤ x ∧ x < 10000 := fun x h => by have := p4 x h; omega
  have hal := angWs_len hx
  have hcnt := Nat.le_trans (cntV_le xs (2 ^ xs.length)) (pow_le_1024 p3)
  have hdl := decDigits_four (n := cntV xs (2 ^ xs.length)) (by omega)
  rw [← hF]
  have hne : F ≠ [] := by intro e; rw [e] at hFl; simp at hFl; omega
  have hsl : (scr (lsV xs F)).length ≤ 300 := by
    have e : scr (lsV xs F) = joinC 32 (angWs xs) ++ [10, 109, 97, 110, 121, 10, 102, 105, 114, 115, 116, 10, 102, 111, 108, 100, 115, 32] ++ F ++ [10, 116, 101, 115, 116, 10] := by simp [scr, lsV, joinC]
    rw [e]
    simp; omega
  have key := impl_Execute m (lsV xs F) hsl (by
    intro x hx
    simp only [lsV, List.mem_cons, List.not_mem_nil, or_false] at hx
    rcases hx with rfl | rfl | rfl | rfl | rfl
    · exact joinC_no (by decide) _ (angWs_no10 xs)
    · decide
    · decide
    · refine joinC_no (by decide) _ ?_
      intro y hy
      simp only [List.mem_cons, List.not_mem_nil, or_false] at hy
      rcases hy with rfl | rfl
      · decide
      · exact hno 10 (by decide)
    · decide) (by simp [lsV]) (stV xs F) (outV xs F) rfl (by show xs.length < 100; omega) (by
    intro k
    unfold outV
    match k with
    | 0 => simp
    | 1 => simp; omega
    | 2 => simp; omega
    | 3 => simp
    | 4 => simp
    | (k + 5) => simp) w hm h0 (by
    intro k x hk td W htd hbW hD
    have hmW : W.cell? ⟨0, 0, none⟩ = some (.int .i64 m) := (hbW.cell (p := ⟨0, 0, none⟩) h0).trans hm
    have h0W : 0 < W.heap.size := Nat.lt_of_lt_of_le h0 hbW.size
    have hpW := hp.below hbW
    match k, hk with
    | 0, hk =>
      obtain rfl : joinC 32 (angWs xs) = x := Option.some.inj hk
      exact line_angles td m xs [] [] hav W hmW h0W hpW hD
    | 1, hk =>
      obtain rfl : joinC 32 [[109, 97, 110, 121]] = x := Option.some.inj hk
      refine impl_line td [109, 97, 110, 121] [] 2 (by decide) m (Lib.decDigits (cntV xs (2 ^ xs.length))) _ true rfl xs xs [] [] W hmW h0W hpW hD (by simp) (by simp [joinC]) rfl fun b o V hpV hDV _ _ => ?_
      refine (impl_many td 0 0 (some ⟨b, o, none⟩) xs [] V hDV hpV hav).mono ?_
      rintro e w' ⟨rfl, hb⟩
      exact ⟨rfl, grown_belowK hb, hDV.below hb⟩
    | 2, hk =>
      obtain rfl : joinC 32 [[102, 105, 114, 115, 116]] = x := Option.some.inj hk
      refine impl_line td [102, 105, 114, 115, 116] [] 3 (by decide) m F _ true rfl xs xs [] [] W hmW h0W hpW hD (by simp) (by simp [joinC]) rfl fun b o V hpV hDV _ _ => ?_
      refine (impl_first td 0 0 (some ⟨b, o, none⟩) xs [] V hDV).mono ?_
      rintro e w' ⟨rfl, hb⟩
      exact ⟨by rw [hFT, hv]; rfl, grown_belowK hb, hDV.below hb⟩
    | 3, hk =>
      obtain rfl : joinC 32 [[102, 111, 108, 100, 115], F] = x := Option.some.inj hk
      exact line_folds td m xs F [] (by omega) hFv (hno 32 (by decide)) (by omega) W hmW h0W hpW hD
    | 4, hk =>
      obtain rfl : joinC 32 [[116, 101, 115, 116]] = x := Option.some.inj hk
      refine impl_line td [116, 101, 115, 116] [] 4 (by decide) m [102, 111, 108, 100, 115] _ true rfl xs xs F F W hmW h0W hpW hD (by simp) (by simp [joinC]) rfl fun b o V hpV hDV _ _ => ?_
      refine (impl_test td 0 0 (some ⟨b, o, none⟩) xs F V hDV (by omega)).mono ?_
      rintro e w' ⟨rfl, hb⟩
      refine ⟨?_, grown_belowK hb, hDV.below hb⟩
      have : testT xs F = [102, 111, 108, 100, 115] := by unfold testT; rw [if_neg hne, hvf]; rfl
      rw [this]
      simp [hne])
  refine key.mono ?_
  rintro e w' ⟨rfl, hb⟩
  refine ⟨?_, hb⟩
  have e5 : outTo (outV xs F) 5 = [111, 107, 10] ++ Lib.decDigits (cntV xs (2 ^ xs.length)) ++ [10] ++ F ++ [10, 111, 107, 10, 102, 111, 108, 100, 115, 10] := by
    simp [outTo, outV, List.range_succ]
  show Ending.returned (.string (btj (outTo _ 5 ++ ([97, 110, 103, 108, 101, 115, 32] ++ Lib.decDigits xs.length ++ [10])))) = _
  rw [e5]
  simp
set_option maxHeartbeats 4000000 in
set_option maxRecDepth 100000 in
theorem law_FnExecuteVertex (A : Option Addr) (cap : Nat) (bs : List UInt8) (w : World) (hx : ∃ m, w.cell? ⟨0, 0, none⟩ = some (.int .i64 m)) (h0 : 0 < w.heap.size) (hp : Pow w) (h : Codes w w.heap.size A bs) (hcap : bs.length ≤ cap) (hcm : cap ≤ maxLen) :
    Calls Tryz.prog 4 #[.slice A bs.length cap] w fun e w' => e = .returned (.bool true) ∧ Below w.heap.size w w' := by
  have hlm : bs.length ≤ maxLen := Nat.le_trans hcap hcm
  have hlm2 := hlm
  unfold maxLen at hlm2
  obtain ⟨m, hm⟩ := hx
  by_cases g1 : 1048576 < bs.length
  · have d1 : decide ((1048576 : Int) < (bs.length : Int)) = true := by simp; omega
    go_enter Tryz.func4, Tryz.ntmps4
    go_wp2_with fail
    go_ret
    exact ⟨rfl, Below.refl _ _⟩
  · have d1 : decide ((1048576 : Int) < (bs.length : Int)) = false := by simp; omega
    have HM := Lib.hid hm
    have HP := Lib.hid hp
    clear hm hp
    go_enter Tryz.func4, Tryz.ntmps4
    go_wp2_with fail
    refine (spec_DrawVertexFirst w A cap bs h (by omega) hcap hcm).mono ?_
    rintro e w1 ⟨B, xs, c, rfl, hI, hc, hcm2, hlen, _, hb1⟩
    have HB1 := Lib.hid hb1
    have HI1 := Lib.hid hI
    have HC := Lib.hid (And.intro hc hcm2)
    obtain ⟨F, hF⟩ : ∃ F, F = (vfoT xs).data.toList := ⟨_, rfl⟩
    have hFT : vfoT xs = btj F := by rw [hF]
    have HI := Lib.hid (fun (W : World) (hb : Below w1.heap.size w1 W) => impl_VertexFirst B c xs W (hI.below hb) (by unfold maxLen; omega))
    have HS := Lib.hid (fun (W : World) (hb : Below w1.heap.size w1 W) => spec_VertexFirst B c xs W (hI.below hb) (by unfold maxLen; omega) hc hcm2)
    rw [hFT] at HI HS
    have te : ((btj F).toList == (btj F).toList) = true := by simp
    have te2 : (F == F) = true := by simp
    cases hv : vfo xs with
    | none =>
      rw [hv] at HI HS
      have HI2 : Hid (∀ W : World, Below w1.heap.size w1 W → Calls Tryz.prog 15 #[.slice B xs.length c] W fun e w' => e = .returned (.tuple #[.string (btj F), .bool false]) ∧ Below W.heap.size W w') := HI.out
      have HS2 : Hid (∀ W : World, Below w1.heap.size w1 W → Calls Tryz.prog 16 #[.slice B xs.length c] W fun e w' => e = .returned (.tuple #[.string (btj F), .bool false]) ∧ Below W.heap.size W w') := HS.out
      clear hv hF hFT hb1 hI hc hcm2 HI HS
      go_wp2_with fail
      refine (HI2.out w1 (Below.refl _ _)).mono ?_
      rintro e w2 ⟨rfl, hb2⟩
      have HBx := Lib.hid hb2
      have HB2 := Lib.hid (below_from HB1.out hb2 HB1.out.size)
      clear hb2 HB1 HI2
      go_wp2_with fail
      refine (HS2.out w2 HBx.out).mono ?_
      rintro e w3 ⟨rfl, hb3⟩
      have HB3 := Lib.hid (below_from HB2.out hb3 HB2.out.size)
      clear hb3 HB2 HS2 HBx
      go_wp2_with fail
      go_ret
      exact ⟨rfl, HB3.out⟩
    | some r =>
      have HX0 := Lib.hid (exec_vertex m xs r hv)
      rw [← hF] at HX0
      rw [hv] at HI HS
      have HI2 : Hid (∀ W : World, Below w1.heap.size w1 W → Calls Tryz.prog 15 #[.slice B xs.length c] W fun e w' => e = .returned (.tuple #[.string (btj F), .bool true]) ∧ Below W.heap.size W w') := HI.out
      have HS2 : Hid (∀ W : World, Below w1.heap.size w1 W → Calls Tryz.prog 16 #[.slice B xs.length c] W fun e w' => e = .returned (.tuple #[.string (btj F), .bool true]) ∧ Below W.heap.size W w') := HS.out
      obtain ⟨hav, hr, _, _⟩ := vfo_some hv
      obtain ⟨_, p2, p3, p4, _⟩ := avB_parts hav
      have hxx : ∀ x ∈ xs, 0 ≤ x ∧ x < 10000 := fun x h => by have := p4 x h; omega
      have hFl : F.length = xs.length := by
        rw [hF]
        have : vfoT xs = txt xs.length r := by unfold vfoT; rw [hv]
        rw [this]; exact txtL_len _ _
      have hFl2 : F.length ≤ 8 := by omega
      have hcnt := Nat.le_trans (cntV_le xs (2 ^ xs.length)) (pow_le_1024 p3)
      have HVM := Lib.hid (fun (W : World) (hb : Below w1.heap.size w1 W) => impl_VertexMany B c xs W (hI.below hb) (by unfold maxLen; omega))
      have e : vmI xs = ((cntV xs (2 ^ xs.length) : Nat) : Int) := by unfold vmI; rw [if_pos hav]
      rw [e] at HVM
      obtain ⟨z, hz⟩ : ∃ z, z = cntV xs (2 ^ xs.length) := ⟨_, rfl⟩
      rw [← hz] at HVM hcnt HX0
      have HAL := Lib.hid (fun (W : World) (hb : Below w1.heap.size w1 W) => laws_anglesLine B c xs W (hI.below hb) (by omega) hxx)
      have hal : (angT xs).length ≤ 60 := by
        have := numsT_len hxx
        unfold angT
        simp; omega
      have HDz := Lib.hid (fun W : World => laws_digits (z + 1) z (by omega) (by omega) W)
      have HDn := Lib.hid (fun W : World => laws_digits (xs.length + 1) xs.length (by omega) (by omega) W)
      have hdz := decDigits_four (n := z) (by omega)
      have hdn := decDigits_four (n := xs.length) (by omega)
      obtain ⟨Dz, hDz⟩ : ∃ D, D = Lib.decDigits z := ⟨_, rfl⟩
      obtain ⟨Dn, hDn⟩ : ∃ D, D = Lib.decDigits xs.length := ⟨_, rfl⟩
      obtain ⟨AL, hAL⟩ : ∃ a, a = angT xs := ⟨_, rfl⟩
      rw [← hDz] at HDz hdz HX0
      rw [← hDn] at HDn hdn HX0
      rw [← hAL] at HAL hal
      obtain ⟨S3, hS3⟩ : ∃ S, S = scr (lsV xs F) := ⟨_, rfl⟩
      rw [← hS3] at HX0
      obtain ⟨R, hR⟩ : ∃ R, R = [111, 107, 10] ++ Dz ++ [10] ++ F ++ [10, 111, 107, 10, 102, 111, 108, 100, 115, 10, 97, 110, 103, 108, 101, 115, 32] ++ Dn ++ [10] := ⟨_, rfl⟩
      rw [← hR] at HX0
      have b1 : ∀ W, (Op.stringOp .add (btj AL) (btj [109, 97, 110, 121, 10, 102, 105, 114, 115, 116, 10, 102, 111, 108, 100, 115, 32])).run Tryz.prog W = .ok (.string (btj (AL ++ [109, 97, 110, 121, 10, 102, 105, 114, 115, 116, 10, 102, 111, 108, 100, 115, 32]))) W := fun W => run_addT _ _ _ rfl (by simp; omega) W
      obtain ⟨S1, hS1⟩ : ∃ S, S = AL ++ [109, 97, 110, 121, 10, 102, 105, 114, 115, 116, 10, 102, 111, 108, 100, 115, 32] := ⟨_, rfl⟩
      have l1 : S1.length ≤ 100 := by rw [hS1]; simp; omega
      have b2 : ∀ W, (Op.stringOp .add (btj S1) (btj F)).run Tryz.prog W = .ok (.string (btj (S1 ++ F))) W := fun W => run_addT _ _ _ rfl (by omega) W
      obtain ⟨S2, hS2⟩ : ∃ S, S = S1 ++ F := ⟨_, rfl⟩
      have l2 : S2.length ≤ 110 := by rw [hS2]; simp; omega
      have b3 : ∀ W, (Op.stringOp .add (btj S2) (btj [10, 116, 101, 115, 116, 10])).run Tryz.prog W = .ok (.string (btj S3)) W := fun W => run_addT _ _ _ (by rw [hS3, hS2, hS1, hAL, ← ang_line]; simp [scr, lsV, joinC]) (by simp; omega) W
      have c1 : ∀ W, (Op.stringOp .add (btj [111, 107, 10]) (btj Dz)).run Tryz.prog W = .ok (.string (btj ([111, 107, 10] ++ Dz))) W := fun W => run_addT _ _ _ rfl (by simp; omega) W
      obtain ⟨E1, hE1⟩ : ∃ S, S = [111, 107, 10] ++ Dz := ⟨_, rfl⟩
      have m1 : E1.length ≤ 10 := by rw [hE1]; simp; omega
      have c2 : ∀ W, (Op.stringOp .add (btj E1) (btj [10])).run Tryz.prog W = .ok (.string (btj (E1 ++ [10]))) W := fun W => run_addT _ _ _ rfl (by simp; omega) W
      obtain ⟨E2, hE2⟩ : ∃ S, S = E1 ++ [10] := ⟨_, rfl⟩
      have m2 : E2.length ≤ 11 := by rw [hE2]; simp; omega
      have c3 : ∀ W, (Op.stringOp .add (btj E2) (btj F)).run Tryz.prog W = .ok (.string (btj (E2 ++ F))) W := fun W => run_addT _ _ _ rfl (by omega) W
      obtain ⟨E3, hE3⟩ : ∃ S, S = E2 ++ F := ⟨_, rfl⟩
      have m3 : E3.length ≤ 20 := by rw [hE3]; simp; omega
      have c4 : ∀ W, (Op.stringOp .add (btj E3) (btj [10, 111, 107, 10, 102, 111, 108, 100, 115, 10, 97, 110, 103, 108, 101, 115, 32])).run Tryz.prog W = .ok (.string (btj (E3 ++ [10, 111, 107, 10, 102, 111, 108, 100, 115, 10, 97, 110, 103, 108, 101, 115, 32]))) W := fun W => run_addT _ _ _ rfl (by simp; omega) W
      obtain ⟨E4, hE4⟩ : ∃ S, S = E3 ++ [10, 111, 107, 10, 102, 111, 108, 100, 115, 10, 97, 110, 103, 108, 101, 115, 32] := ⟨_, rfl⟩
      have m4 : E4.length ≤ 40 := by rw [hE4]; simp; omega
      have c5 : ∀ W, (Op.stringOp .add (btj E4) (btj Dn)).run Tryz.prog W = .ok (.string (btj (E4 ++ Dn))) W := fun W => run_addT _ _ _ rfl (by omega) W
      obtain ⟨E5, hE5⟩ : ∃ S, S = E4 ++ Dn := ⟨_, rfl⟩
      have m5 : E5.length ≤ 50 := by rw [hE5]; simp; omega
      have c6 : ∀ W, (Op.stringOp .add (btj E5) (btj [10])).run Tryz.prog W = .ok (.string (btj R)) W := fun W => run_addT _ _ _ (by rw [hR, hE5, hE4, hE3, hE2, hE1]) (by simp; omega) W
      rw [← hS1] at b1
      rw [← hS2] at b2
      rw [← hE1] at c1
      rw [← hE2] at c2
      rw [← hE3] at c3
      rw [← hE4] at c4
      rw [← hE5] at c5
      have te3 : ((btj R).toList == (btj R).toList) = true := by simp
      have te4 : (R == R) = true := by simp
      clear hv hF hFT hb1 hI hc hcm2 HI HS hS1 hS2 hS3 hE1 hE2 hE3 hE4 hE5 hR hAL hDz hDn hz e hcnt hav hr p2 p3 p4 hxx hFl l1 l2 m1 m2 m3 m4 m5 hal hdz hdn
      go_wp2_with fail
      refine (HI2.out w1 (Below.refl _ _)).mono ?_
      rintro e w2 ⟨rfl, hb2⟩
      have HBx := Lib.hid hb2
      clear hb2 HI2
      go_wp2_with fail
      refine (HS2.out w2 HBx.out).mono ?_
      rintro e w3 ⟨rfl, hb3⟩
      have HB3 := Lib.hid (HBx.out.trans (hb3.mono HBx.out.size))
      clear hb3 HS2 HBx
      go_wp2_with fail
      refine (HAL.out w3 HB3.out).mono ?_
      rintro e w4 ⟨rfl, hb4⟩
      have HB4 := Lib.hid (HB3.out.trans (hb4.mono HB3.out.size))
      have HW4 := Lib.hid (below_from HB1.out HB4.out HB1.out.size)
      have HXX := Lib.hid (HX0.out w4 ((HW4.out.cell (p := ⟨0, 0, none⟩) h0).trans HM.out) (Nat.lt_of_lt_of_le h0 HW4.out.size) (HP.out.below HW4.out))
      clear hb4 HB3 HAL HX0
      go_wp2_with fail
      refine HXX.out.mono ?_
      rintro e w5 ⟨rfl, hb5⟩
      have HB5 := Lib.hid (HB4.out.trans (hb5.mono HB4.out.size))
      clear hb5 HB4 HXX
      go_wp2_with fail
      refine (HVM.out w5 HB5.out).mono ?_
      rintro e w6 ⟨rfl, hb6⟩
      have HB6 := Lib.hid (HB5.out.trans (hb6.mono HB5.out.size))
      clear hb6 HB5 HVM
      go_wp2_with fail
      refine (HDz.out w6).mono ?_
      rintro e w7 ⟨rfl, hb7⟩
      have HB7 := Lib.hid (HB6.out.trans (hb7.mono HB6.out.size))
      clear hb7 HB6 HDz
      go_wp2_with fail
      refine (HDn.out w7).mono ?_
      rintro e w8 ⟨rfl, hb8⟩
      have HB8 := Lib.hid (HB7.out.trans (hb8.mono HB7.out.size))
      clear hb8 HB7 HDn
      go_wp2_with fail
      go_ret
      exact ⟨rfl, below_from HB1.out HB8.out HB1.out.size⟩
end Go.Proofs.YtmohfibgefcefaaGreatDoor
