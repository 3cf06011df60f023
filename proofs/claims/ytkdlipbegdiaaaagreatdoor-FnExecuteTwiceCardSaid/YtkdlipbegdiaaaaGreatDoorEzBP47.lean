/- The desk in plain words: whole lines, lines that change nothing. No walk, no condition. What the laws do with a script's text: its whole lines, its last line. No condition but sizes. FnExecuteNone: whole lines are all that counts. No condition but what the row says of memory and what the table of powers of ten holds. -/
import Derived.Test.YtkdlipbegdiaaaaGreatDoorEzBP41
import Derived.Test.YtkdlipbegdiaaaaGreatDoorEzBP46
import Derived.Test.YtkdlipbegdiaaaaGreatDoorEzBP33
namespace Go.Proofs.YtkdlipbegdiaaaaGreatDoor
open Go.RowKit
/-- what a script's lines tell, and the desk behind them -/
def preT (ls : List (List UInt8)) : List UInt8 := outTo (outA ls) ls.length
def endS (ls : List (List UInt8)) : Dk := stA ls ls.length
theorem stA_app (ls es : List (List UInt8)) {k : Nat} (hk : k ≤ ls.length) : stA (ls ++ es) k = stA ls k := by
  unfold stA
  rw [List.take_append_of_le_length hk]
theorem outA_app (ls es : List (List UInt8)) {k : Nat} (hk : k < ls.length) : outA (ls ++ es) k = outA ls k := by
  unfold outA
  rw [stA_app ls es (Nat.le_of_lt hk), List.getD_eq_getElem?_getD, List.getD_eq_getElem?_getD, List.getElem?_append_left hk]
theorem endS_snoc (ls : List (List UInt8)) (x : List UInt8) : endS (ls ++ [x]) = (lineL (endS ls) x).1 := by
  unfold endS
  rw [List.length_append, List.length_singleton, stA_succ (x := x) (by simp), stA_app ls [x] (Nat.le_refl _)]
theorem outTo_congr {f g : Nat → List UInt8} {n : Nat} (h : ∀ k, k < n → f k = g k) : outTo f n = outTo g n := by
  induction n with
  | zero => rfl
  | succ n ih => rw [outTo_succ, outTo_succ, ih fun k hk => h k (by omega), h n (by omega)]
theorem preT_snoc (ls : List (List UInt8)) (x : List UInt8) : preT (ls ++ [x]) = preT ls ++ (lineL (endS ls) x).2 ++ [10] := by
  unfold preT
  rw [List.length_append, List.length_singleton, outTo_succ, outTo_congr fun k hk => outA_app ls [x] hk, outA_at (x := x) (by simp), stA_app ls [x] (Nat.le_refl _)]
  rfl
theorem scrT_pre (ls : List (List UInt8)) : scrT ls = preT ls ++ endT (endS ls).1.length := rfl
theorem cut_scrL {ls : List (List UInt8)} (h : ∀ x ∈ ls, (10 : UInt8) ∉ x) : (cutL 10 (scr ls)).dropLast = ls := by
  have : cutL 10 (scr ls) = ls ++ [[]] := by
    have e := join_scrZ ls []
    rw [List.append_nil] at e
    rw [← e]
    refine cut_joinC _ (by simp) ?_
    intro w hw
    rcases List.mem_append.1 hw with hw | hw
    · exact h w hw
    · rw [List.mem_singleton] at hw; subst hw; simp
  rw [this, List.dropLast_concat]
theorem exeT_scr {ls : List (List UInt8)} (h : ∀ x ∈ ls, (10 : UInt8) ∉ x) (hl : (scr ls).length ≤ 300) : exeT (scr ls) = preT ls ++ endT (endS ls).1.length := by
  unfold exeT
  rw [if_neg (by omega), cut_scrL h, scrT_pre]
/-- the whole lines of a script -/
def lnsT (t : List UInt8) : List (List UInt8) := (cutL 10 t).dropLast
theorem lnsT_no (t : List UInt8) : ∀ x ∈ lnsT t, (10 : UInt8) ∉ x := fun x hx => cutL_no 10 t x (List.dropLast_subset _ hx)
theorem lnsT_cut (t : List UInt8) : ∃ z, t = scr (lnsT t) ++ z ∧ (10 : UInt8) ∉ z := cut_scr t
theorem exeT_short {t : List UInt8} (h : t.length ≤ 300) : exeT t = preT (lnsT t) ++ endT (endS (lnsT t)).1.length := by
  unfold exeT
  rw [if_neg (by omega), ← scrT_pre]; rfl
theorem exeT_complete {t : List UInt8} (h : t.length ≤ 300) : exeT (scr (lnsT t)) = exeT t := by
  obtain ⟨z, hz, _⟩ := lnsT_cut t
  have hl : (scr (lnsT t)).length ≤ 300 := by
    have := congrArg List.length hz
    rw [List.length_append] at this; omega
  rw [exeT_scr (lnsT_no t) hl, exeT_short h]
theorem exeT_nil : exeT [] = [97, 110, 103, 108, 101, 115, 32, 48, 10] := by
  rw [exeT_short (by simp)]
  show [] ++ ([97, 110, 103, 108, 101, 115, 32] ++ Lib.decDigits 0 ++ [10]) = _
  rw [Lib.decDigits_one (by omega)]; rfl
theorem exeT_ne (t : List UInt8) : exeT t ≠ [] := by
  unfold exeT
  split
  · unfold longT; simp
  · unfold scrT endT; simp
theorem scr_snoc (ls : List (List UInt8)) (x : List UInt8) : scr (ls ++ [x]) = scr ls ++ (x ++ [10]) := by
  unfold scr
  rw [List.flatMap_append]; simp
/-- lines that change nothing -/
def zzz : List UInt8 := [122, 122, 122]
def nine : List UInt8 := [97, 110, 103, 108, 101, 115, 32, 57, 32, 57]
def frst : List UInt8 := [102, 105, 114, 115, 116]
theorem line_zzz (s : Dk) : lineL s zzz = (s, whatT) := by
  have e : cutL 32 zzz = [zzz] := cutL_one (by decide)
  unfold lineL
  rw [e]
  show lineW s zzz [] = _
  have hk : ∀ c, c < 10 → cmdIs c zzz ([] : List (List UInt8)).length = false := by
    intro c hc
    have : ∀ c : Fin 10, cmdIs c zzz 0 = false := by decide
    exact this ⟨c, hc⟩
  rw [lineW_ask (hk 0 (by decide)) (hk 1 (by decide)), askT_none hk]
theorem line_nine (s : Dk) : lineL s nine = (s, noT) := by
  have e : cutL 32 nine = [[97, 110, 103, 108, 101, 115], [57], [57]] := by decide
  unfold lineL
  rw [e]
  show lineW s [97, 110, 103, 108, 101, 115] [[57], [57]] = _
  rw [lineW_0 (by decide), if_neg]
  decide
/-- what is told when the first folding is asked for -/
def frT (s : Dk) : List UInt8 := saidT (vfoT s.1).data.toList (vfo s.1).isSome
theorem line_frst (s : Dk) : lineL s frst = (s, frT s) := by
  have e : cutL 32 frst = [frst] := cutL_one (by decide)
  unfold lineL
  rw [e]
  show lineW s frst [] = _
  have k3 : cmdIs 3 frst ([] : List (List UInt8)).length = true := by decide
  rw [lineW_ask (cmdIs_other (i := 0) (by decide) (by decide) k3 (by decide)) (cmdIs_other (i := 1) (by decide) (by decide) k3 (by decide)), (askT_c (s := s) (by decide) k3).2.1 rfl]
  rfl
theorem exeT_what {ls : List (List UInt8)} (h : ∀ x ∈ ls, (10 : UInt8) ∉ x) (hl : (scr ls).length ≤ 284) :
    exeT (scr ls ++ [122, 122, 122, 10, 97, 110, 103, 108, 101, 115, 32, 57, 32, 57, 10]) = (preT ls ++ [119, 104, 97, 116, 10, 110, 111, 10]) ++ endT (endS ls).1.length := by
  have e : scr ls ++ [122, 122, 122, 10, 97, 110, 103, 108, 101, 115, 32, 57, 32, 57, 10] = scr ((ls ++ [zzz]) ++ [nine]) := by rw [scr_snoc, scr_snoc]; simp [zzz, nine]
  rw [e, exeT_scr]
  · simp only [preT_snoc, endS_snoc, line_zzz, line_nine]
    simp [whatT, noT]
  · intro x hx
    simp only [List.mem_append, List.mem_singleton] at hx
    rcases hx with (hx | rfl) | rfl
    · exact h x hx
    · decide
    · decide
  · rw [← e, List.length_append]; simp; omega
theorem exeT_frst {ls : List (List UInt8)} (h : ∀ x ∈ ls, (10 : UInt8) ∉ x) (hl : (scr ls).length ≤ 288) :
    exeT (scr ls ++ [102, 105, 114, 115, 116, 10]) = (preT ls ++ (frT (endS ls) ++ [10])) ++ endT (endS ls).1.length := by
  have e : scr ls ++ [102, 105, 114, 115, 116, 10] = scr (ls ++ [frst]) := by rw [scr_snoc]; simp [frst]
  rw [e, exeT_scr]
  · simp only [preT_snoc, endS_snoc, line_frst]
    simp
  · intro x hx
    simp only [List.mem_append, List.mem_singleton] at hx
    rcases hx with hx | rfl
    · exact h x hx
    · decide
  · rw [← e, List.length_append]; simp; omega
theorem exeT_twice {ls : List (List UInt8)} (h : ∀ x ∈ ls, (10 : UInt8) ∉ x) (hl : (scr ls).length ≤ 288) :
    exeT (scr ls ++ [102, 105, 114, 115, 116, 10, 102, 105, 114, 115, 116, 10]) = ((preT ls ++ (frT (endS ls) ++ [10])) ++ (frT (endS ls) ++ [10])) ++ endT (endS ls).1.length := by
  have e : scr ls ++ [102, 105, 114, 115, 116, 10, 102, 105, 114, 115, 116, 10] = scr ((ls ++ [frst]) ++ [frst]) := by rw [scr_snoc, scr_snoc]; simp [frst]
  rw [e, exeT_scr]
  · simp only [preT_snoc, endS_snoc, line_frst]
    simp
  · intro x hx
    simp only [List.mem_append, List.mem_singleton] at hx
    rcases hx with (hx | rfl) | rfl
    · exact h x hx
    · decide
    · decide
  · rw [← e, List.length_append]; simp; omega
theorem preT_end (ls : List (List UInt8)) : preT ls = [] ∨ ∃ p, preT ls = p ++ [10] := by
  rcases List.eq_nil_or_concat ls with rfl | ⟨q, x, rfl⟩
  · exact Or.inl rfl
  · rw [List.concat_eq_append, preT_snoc]; exact Or.inr ⟨_, rfl⟩
theorem scr_end (ls : List (List UInt8)) : scr ls = [] ∨ ∃ p, scr ls = p ++ [10] := by
  rcases List.eq_nil_or_concat ls with rfl | ⟨q, x, rfl⟩
  · exact Or.inl rfl
  · rw [List.concat_eq_append, scr_snoc]; exact Or.inr ⟨scr q ++ x, by simp⟩
theorem preT_len {ls : List (List UInt8)} (h : ls.length ≤ 300) : (preT ls).length ≤ 4000000 := by
  have := outTo_len (out := outA ls) (fun k => Nat.le_trans (outA_len ls k) (by omega)) ls.length
  unfold preT; omega
end Go.Proofs.YtkdlipbegdiaaaaGreatDoor
namespace Go.Proofs.YtkdlipbegdiaaaaGreatDoor
open Go.RowKit
set_option maxHeartbeats 2000000 in
set_option maxRecDepth 100000 in
theorem laws_complete (a z : List UInt8) (hz : (10 : UInt8) ∉ z) (ha : a = [] ∨ ∃ p, a = p ++ [10]) (hl : (a ++ z).length ≤ 1000000) (w : World) :
    Calls Tryz.prog 16 #[.string (btj (a ++ z))] w fun e w' => e = .returned (.string (btj a)) ∧ w = w' := by
  obtain ⟨S, hS⟩ : ∃ S, S = btj (a ++ z) := ⟨_, rfl⟩
  have hSz : S.size = a.length + z.length := by rw [hS, btj_size, List.length_append]
  have HSZ := Lib.hid hSz
  have HG : Hid (∀ (i : Nat) (h1 : i < S.size) (h2 : i < (a ++ z).length), S[i] = (a ++ z)[i]) := (by
    intro i h1 h2
    subst hS
    rfl : ∀ (i : Nat) (h1 : i < S.size) (h2 : i < (a ++ z).length), S[i] = (a ++ z)[i])
  have HX : Hid (S.extract 0 a.length = btj a) := by
    show _ = _
    rw [hS, btj_cut, List.take_left]; rfl
  have HA := Lib.hid ha
  have hl2 : S.size ≤ 1000000 := by rw [hSz, ← List.length_append]; exact hl
  rw [← hS]
  clear hS hSz ha hl
  go_enter Tryz.func16, Tryz.ntmps16
  go_wp2_with fail
  go_loopg [3] (S.size + 1) (fun gg s3 wr => ∃ (i : Nat), a.length ≤ i ∧ i ≤ S.size ∧ s3 = .int .i64 i ∧ i < gg ∧ Hid (wr = w))
  case atStart => exact ⟨S.size, by rw [HSZ.out]; omega, Nat.le_refl _, rfl, by omega, rfl⟩
  case round =>
    obtain ⟨i, hai, hiS, rfl, hg, HW⟩ := hrel
    cases gk with
    | zero => omega
    | succ gl =>
    by_cases h0 : 0 < i
    · have i1 : (0 : Int) < (i : Int) := by omega
      obtain ⟨j, hj⟩ : ∃ j, j = i - 1 := ⟨_, rfl⟩
      have ej : (i : Int) - 1 = (j : Int) := by omega
      have iw : IntKind.i64.wrap ((i : Int) - 1) = (j : Int) := by rw [ej]; exact IntWalk.i64_in _ (by omega)
      have j0 : (0 : Int) ≤ (j : Int) := by omega
      have jS : j < S.size := by omega
      have jS2 : (j : Int) < (S.size : Int) := by omega
      have hsz := HSZ.out
      have j2 : j < (a ++ z).length := by rw [List.length_append, ← hsz]; exact jS
      have hgj := HG.out j jS j2
      by_cases hia : i = a.length
      · have hx : (a ++ z)[j] = 10 := by
          rcases HA.out with e | ⟨p, e⟩
          · exfalso; rw [e] at hia; simp at hia; omega
          · have hjp : j = p.length := by rw [hj, hia, e]; simp
            subst hjp
            simp [e]
        have e1 : ((S[j].toNat : Int) == 10) = true := by rw [beq_iff_eq, hgj, hx]; rfl
        have f1 : (0 : Int) ≤ (i : Int) := by omega
        have f2 : (i : Int) ≤ (S.size : Int) := by omega
        have hcut : S.extract 0 i = btj a := by rw [hia]; exact HX.out
        clear hgj hx hj hai hia hsz
        go_wp2_with fail
        go_ret
        exact ⟨rfl, HW.out.symm⟩
      · have hx : (a ++ z)[j] ≠ 10 := by
          have hja : a.length ≤ j := by omega
          rw [List.getElem_append_right hja]
          intro e
          exact hz (e ▸ List.getElem_mem _)
        have e1 : ((S[j].toNat : Int) == 10) = false := by
          rw [beq_eq_false_iff_ne, hgj]
          intro e
          apply hx
          exact UInt8.toNat_inj.1 (by have : ((a ++ z)[j].toNat : Int) = ((10 : UInt8).toNat : Int) := e; omega)
        have hja : a.length ≤ j := by omega
        have hjg : j < gl := by omega
        have hjS : j ≤ S.size := by omega
        clear hgj hx hj hai hsz
        go_wp2_with fail
        go_roundg gl
        case measure => omega
        case rel => exact ⟨j, hja, hjS, by go_num, hjg, HW⟩
    · obtain rfl : i = 0 := by omega
      have hae : a = [] := List.eq_nil_of_length_eq_zero (by omega)
      have HE : Hid (a = []) := hae
      clear hae
      go_wp2_with fail
      go_ret
      exact ⟨by rw [HE.out]; rfl, HW.out.symm⟩
set_option maxHeartbeats 2000000 in
set_option maxRecDepth 100000 in
theorem laws_lastLine (p e : List UInt8) (he : (10 : UInt8) ∉ e) (hp : p = [] ∨ ∃ q, p = q ++ [10]) (hl : (p ++ (e ++ [10])).length ≤ 10000000) (w : World) :
    Calls Tryz.prog 17 #[.string (btj (p ++ (e ++ [10])))] w fun r w' => r = .returned (.string (btj (e ++ [10]))) ∧ w = w' := by
  obtain ⟨S, hS⟩ : ∃ S, S = btj (p ++ (e ++ [10])) := ⟨_, rfl⟩
  have hSz : S.size = p.length + e.length + 1 := by rw [hS, btj_size]; simp; omega
  have HSZ := Lib.hid hSz
  have hG0 : ∀ (i : Nat) (h1 : i < S.size) (h2 : i < (p ++ (e ++ [10])).length), S[i] = (p ++ (e ++ [10]))[i] := by
    intro i h1 h2
    subst hS
    rfl
  have HG := Lib.hid hG0
  have HX : Hid (S.extract p.length S.size = btj (e ++ [10])) := by
    show _ = _
    have : S.size = (p ++ (e ++ [10])).length := by rw [hS, btj_size]
    rw [this, hS, btj_cut, List.take_length, List.drop_left]
  have HN : Hid (p = [] → S = btj (e ++ [10])) := (fun h => by rw [hS, h]; rfl : p = [] → S = btj (e ++ [10]))
  have HP := Lib.hid hp
  have hl2 : S.size ≤ 10000000 := by rw [hS, btj_size]; exact hl
  have hS1 : 1 ≤ S.size := by omega
  have iw0 : IntKind.i64.wrap ((S.size : Int) - 2) = (S.size : Int) - 2 := IntWalk.i64_in _ (by omega)
  rw [← hS]
  clear hS hSz hp hl hG0
  go_enter Tryz.func17, Tryz.ntmps17
  go_wp2_with fail
  go_loopg [3] (S.size + 1) (fun gg s3 wr => ∃ (j : Nat) (x : Int), p.length ≤ j ∧ j < S.size ∧ s3 = .int .i64 x ∧ x = (j : Int) - 1 ∧ j < gg ∧ Hid (wr = w))
  case atStart => exact ⟨S.size - 1, _, by rw [HSZ.out]; omega, by omega, rfl, by omega, by omega, rfl⟩
  case round =>
    obtain ⟨j, x, hpj, hjS, rfl, hxe, hg, HW⟩ := hrel
    cases gk with
    | zero => omega
    | succ gl =>
    by_cases h0 : 0 < j
    · obtain ⟨k, hk⟩ : ∃ k, k = j - 1 := ⟨_, rfl⟩
      obtain rfl : x = (k : Int) := by omega
      have k0 : (0 : Int) ≤ (k : Int) := by omega
      have kS : k < S.size := by omega
      have kS2 : (k : Int) < (S.size : Int) := by omega
      have hsz := HSZ.out
      have k2 : k < (p ++ (e ++ [10])).length := by simp; omega
      have hgk := HG.out k kS k2
      by_cases hjp : j = p.length
      · have hx : (p ++ (e ++ [10]))[k] = 10 := by
          rcases HP.out with e0 | ⟨q, e0⟩
          · exfalso; rw [e0] at hjp; simp at hjp; omega
          · have hkq : k = q.length := by rw [hk, hjp, e0]; simp
            subst hkq
            simp [e0]
        have e1 : ((S[k].toNat : Int) == 10) = true := by rw [beq_iff_eq, hgk, hx]; rfl
        have ek : (k : Int) + 1 = (p.length : Int) := by omega
        have iw : IntKind.i64.wrap ((k : Int) + 1) = (p.length : Int) := by rw [ek]; exact IntWalk.i64_in _ (by omega)
        have f1 : (0 : Int) ≤ (p.length : Int) := by omega
        have f2 : (p.length : Int) ≤ (S.size : Int) := by omega
        have hcut : S.extract p.length S.size = btj (e ++ [10]) := HX.out
        clear hgk hx hk hpj hjp hsz ek hxe
        go_wp2_with fail
        go_ret
        exact ⟨rfl, HW.out.symm⟩
      · have hx : (p ++ (e ++ [10]))[k] ≠ 10 := by
          have hpk : p.length ≤ k := by omega
          rw [List.getElem_append_right hpk, List.getElem_append_left (by omega)]
          intro e2
          exact he (e2 ▸ List.getElem_mem _)
        have e1 : ((S[k].toNat : Int) == 10) = false := by
          rw [beq_eq_false_iff_ne, hgk]
          intro e2
          apply hx
          exact UInt8.toNat_inj.1 (by have : ((p ++ (e ++ [10]))[k].toNat : Int) = ((10 : UInt8).toNat : Int) := e2; omega)
        have iw : IntKind.i64.wrap ((k : Int) - 1) = (k : Int) - 1 := IntWalk.i64_in _ (by omega)
        have hpk : p.length ≤ k := by omega
        have hkg : k < gl := by omega
        clear hgk hx hk hpj hsz hxe
        go_wp2_with fail
        go_roundg gl
        case measure => omega
        case rel => exact ⟨k, _, hpk, kS, by go_num, rfl, hkg, HW⟩
    · obtain rfl : j = 0 := by omega
      have hx0 : ¬ ((0 : Int) ≤ x) := by omega
      clear hxe
      have hpe : p = [] := List.eq_nil_of_length_eq_zero (by omega)
      have HE : Hid (S = btj (e ++ [10])) := HN.out hpe
      clear hpe
      go_wp2_with fail
      go_ret
      exact ⟨by rw [HE.out]; rfl, HW.out.symm⟩
end Go.Proofs.YtkdlipbegdiaaaaGreatDoor
namespace Go.Proofs.YtkdlipbegdiaaaaGreatDoor
open Go.RowKit
set_option maxHeartbeats 4000000 in
set_option maxRecDepth 100000 in
theorem law_FnExecuteNone (A : Option Addr) (cap : Nat) (bs : List UInt8) (w : World) (hx : ∃ m, w.cell? ⟨0, 0, none⟩ = some (.int .i64 m)) (h0 : 0 < w.heap.size) (hp : Pow w) (h : Codes w w.heap.size A bs) (hcap : bs.length ≤ cap) (hcm : cap ≤ maxLen) :
    Calls Tryz.prog 5 #[.slice A bs.length cap] w fun e w' => e = .returned (.bool true) ∧ Below w.heap.size w w' := by
  have hlm : bs.length ≤ maxLen := Nat.le_trans hcap hcm
  unfold maxLen at hlm
  obtain ⟨m, hm⟩ := hx
  by_cases g1 : 1048576 < bs.length
  · have d1 : decide ((1048576 : Int) < (bs.length : Int)) = true := by simp; omega
    go_enter Tryz.func5, Tryz.ntmps5
    go_wp2_with fail
    go_ret
    exact ⟨rfl, Below.refl _ _⟩
  · have d1 : decide ((1048576 : Int) < (bs.length : Int)) = false := by simp; omega
    have HEX := Lib.hid (fun (t : List UInt8) (W : World) (hb : Below w.heap.size w W) => impl_ExecuteG m t W ((hb.cell (p := ⟨0, 0, none⟩) h0).trans hm) (Nat.lt_of_lt_of_le h0 hb.size) (hp.below hb))
    have HES := Lib.hid (fun (t : List UInt8) (W : World) => spec_ExecuteT t W)
    clear hm hp
    go_enter Tryz.func5, Tryz.ntmps5
    go_wp2_with fail
    refine (spec_DrawExecute w A cap bs h (by omega) hcap hcm).mono ?_
    rintro e w1 ⟨s, rfl, hsz, hb1⟩
    obtain ⟨t, ht⟩ : ∃ t, t = s.data.toList := ⟨_, rfl⟩
    obtain rfl : s = btj t := by rw [ht]
    have htl : t.length ≤ 10000 := by rw [← btj_size]; exact hsz
    have HB1 := Lib.hid hb1
    have HE1 := Lib.hid (HEX.out t)
    have HE2 := Lib.hid (HES.out t)
    have HE3 := Lib.hid (HEX.out (scr (lnsT t)))
    have HE0 := Lib.hid (HEX.out [])
    rw [exeT_nil] at HE0
    obtain ⟨z, hz, hzn⟩ := lnsT_cut t
    have HC := Lib.hid (fun W : World => laws_complete (scr (lnsT t)) z hzn (scr_end _) (by rw [← hz]; omega) W)
    rw [← hz] at HC
    obtain ⟨T, hT⟩ : ∃ T, T = btj t := ⟨_, rfl⟩
    have hTs : T.size = t.length := by rw [hT, btj_size]
    clear h hb1 hz ht hsz
    by_cases g3 : 300 < t.length
    · have eX : exeT t = longT := by unfold exeT; rw [if_pos g3]
      rw [eX] at HE1 HE2
      rw [← hT] at HE1 HE2 HC ⊢
      have d3 : decide ((300 : Int) < (T.size : Int)) = true := by rw [hTs]; simp; omega
      have d3' : (300 : Int) < (T.size : Int) := by omega
      clear hT hTs g3 eX
      go_wp2_with fail
      refine (HE1.out w1 HB1.out).mono ?_
      rintro e w2 ⟨rfl, hb2⟩
      have HB2 := Lib.hid (HB1.out.trans (hb2.mono HB1.out.size))
      clear hb2 HB1 HE1
      go_wp2_with fail
      refine (HE2.out w2).mono ?_
      rintro e w3 ⟨rfl, hb3⟩
      have HB3 := Lib.hid (HB2.out.trans (hb3.mono HB2.out.size))
      clear hb3 HB2 HE2
      go_wp2_with fail
      go_ret
      exact ⟨rfl, HB3.out⟩
    · have hne := exeT_ne t
      rw [exeT_complete (by omega)] at HE3
      obtain ⟨R, hR⟩ : ∃ R, R = exeT t := ⟨_, rfl⟩
      rw [← hR] at HE1 HE2 HE3 hne
      obtain ⟨C, hC⟩ : ∃ C, C = btj (scr (lnsT t)) := ⟨_, rfl⟩
      rw [← hC] at HE3 HC
      rw [← hT] at HE1 HE2 HC ⊢
      have d3 : ¬ ((300 : Int) < (T.size : Int)) := by rw [hTs]; omega
      have hRe : R.isEmpty = false := by cases R with | nil => exact absurd rfl hne | cons _ _ => rfl
      clear hT hTs g3 hR hC
      go_wp2_with fail
      refine (HE1.out w1 HB1.out).mono ?_
      rintro e w2 ⟨rfl, hb2⟩
      have HB2 := Lib.hid (HB1.out.trans (hb2.mono HB1.out.size))
      clear hb2 HB1 HE1
      go_wp2_with fail
      refine (HE2.out w2).mono ?_
      rintro e w3 ⟨rfl, hb3⟩
      have HB3 := Lib.hid (HB2.out.trans (hb3.mono HB2.out.size))
      clear hb3 HB2 HE2
      go_wp2_with fail
      refine (HE0.out w3 HB3.out).mono ?_
      rintro e w4 ⟨rfl, hb4⟩
      have HB4 := Lib.hid (HB3.out.trans (hb4.mono HB3.out.size))
      clear hb4 HB3 HE0
      go_wp2_with fail
      refine (HC.out w4).mono ?_
      rintro e w5 ⟨rfl, rfl⟩
      go_wp2_with fail
      refine (HE3.out w4 HB4.out).mono ?_
      rintro e w6 ⟨rfl, hb6⟩
      have HB6 := Lib.hid (HB4.out.trans (hb6.mono HB4.out.size))
      clear hb6 HB4 HE3
      go_wp2_with fail
      go_ret
      exact ⟨rfl, HB6.out⟩
end Go.Proofs.YtkdlipbegdiaaaaGreatDoor
