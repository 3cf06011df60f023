/- The program's 'foldsOfNumber': the text of so many folds with a rank. No condition but sizes. VertexMany and VertexFirst, the program's and the reference's. No condition but sizes. Counting texts: evenness, turning, bounds; a vertex that closes has folds. No program, no condition but sizes. -/
import Derived.Laws.BitsAllLaws
import Derived.Laws.BitsLemmas
import Derived.Laws.OwnMore
import Derived.Test.YtnccpifdajcejaaFnPatternJoinWithoutP45
import Derived.Test.YtnccpifdajcejaaFnPatternJoinWithoutP40
import Derived.Test.YtnccpifdajcejaaImplB
import Derived.Test.YtnccpifdajcejaaFnPatternJoinWithoutP38
namespace Go.Proofs.Ytnccpifdajcejaa
open Go.RowKit

theorem i64_and_one (a : Nat) (ha : a < 9223372036854775808) : bits .and .i64 (a : Int) 1 = ((a % 2 : Nat) : Int) := by
  have h1 : (BitVec.ofInt 64 (a : Int)).toNat = a := by rw [BitVec.ofInt_natCast, BitVec.toNat_ofNat]; exact Nat.mod_eq_of_lt (by omega)
  show IntKind.i64.wrap ((BitVec.ofInt 64 (a : Int) &&& BitVec.ofInt 64 (1 : Int)).toNat : Int) = _
  rw [BitVec.toNat_and, h1, show (BitVec.ofInt 64 (1 : Int)).toNat = 1 from by decide, Nat.and_one_is_mod, IntKind.wrap_i64]
  omega
theorem shr_nat (k m : Nat) : (k : Int) / 2 ^ m = ((k / 2 ^ m : Nat) : Int) := by simp
theorem byteVals_set (bs : List UInt8) (i : Nat) (c : UInt8) (ci : Int) (h : (c.toNat : Int) = ci) : (byteVals bs).set i (.int .u8 ci) = byteVals (bs.set i c) := by
  subst h; simp [byteVals, List.map_set]
theorem made_zero (n : Nat) : (madeCells (Value.int .u8 0).cells (n * 1)).toList = byteVals (List.replicate n 0) := by
  apply List.ext_getElem
  · simp [madeCells, byteVals]
  · intro i h1 h2
    simp [madeCells, byteVals, Value.cells, Nat.mod_one]
theorem ext_txtL (n k : Nat) (bs : List UInt8) (hl : bs.length = n) (h : ∀ j, j < n → bs[j]? = some (bitL k (n - 1 - j))) : bs = txtL n k := by
  apply List.ext_getElem?
  intro i
  by_cases hi : i < n
  · rw [h i hi, txtL_get n k i hi]
  · rw [List.getElem?_eq_none (by omega), List.getElem?_eq_none (by rw [txtL_len]; omega)]

set_option maxHeartbeats 1000000 in
theorem impl_foldsOfNumber (n k : Nat) (w : World) (hn : n ≤ 60) (hk : k ≤ 1000000000000) :
    Calls Try.prog 57 #[.int .i64 n, .int .i64 k] w fun e w' => e = .returned (.string (txt n k)) ∧ Below w.heap.size w w' := by
  go_enter Try.func57, Try.ntmps57
  obtain ⟨i0, hi, hz0, hz1, hz2⟩ := info_parts Try.infoByte
  obtain ⟨w1, hrun, ho1, hg1⟩ := run_make_full (P := Try.prog) w w.heap.size 22 5 i0 (.int .u8 0) 1 Try.underlying22 hi hz0 hz1 .i64 .i64 n (by rw [hz2]; omega) (by unfold maxLen; omega) (Nat.le_refl w.heap.size)
  rw [made_zero] at ho1
  have HB := Lib.hid ((Below.refl w.heap.size w).grown hg1 (Nat.le_refl _) (fun _ hh => by cases hh))
  have HO := Lib.hid ho1
  have HR := Lib.hid hrun
  clear ho1 hg1 hi hz0 hz1 hz2 hrun
  set_option maxRecDepth 100000 in
  go_wp2_with fail
  rw [HR.out]
  go_wp2_with fail
  go_loopg [11] (n + 1) (fun g s11 wr => ∃ (i : Nat) (bs : List UInt8), i ≤ n ∧ s11 = .int .i64 i ∧ n - i < g ∧ Below w.heap.size w wr ∧ bs.length = n ∧ Hid (∀ j, j < i → bs[j]? = some (bitL k (n - 1 - j))) ∧
    wr.ownsRow w.heap.size 5 1 (.slice (some ⟨w.heap.size, 0, none⟩) n n) n (byteVals bs))
  case atStart => exact ⟨0, List.replicate n 0, Nat.zero_le _, rfl, by omega, HB.out, by simp, fun j hj => absurd hj (Nat.not_lt_zero j), HO.out⟩
  case round =>
    obtain ⟨i, bs, hi, rfl, hg, hbel, hlen, HE, hown⟩ := hrel
    cases gk with
    | zero => omega
    | succ g =>
    by_cases hlt : i < n
    · have c1 := hown.cellAt i (by omega)
      rw [List.getElem?_eq_getElem (by simp [byteVals_len]; omega)] at c1
      have c2 := hown.frozenAt i
      have st1 := hown.stored i (.int .u8 77)
      rw [byteVals_set bs i 77 77 rfl] at st1
      have hb1 := hbel.grown st1.2 hbel.size (fun k hk => by cases hk; exact Nat.le_refl _)
      have st2 := st1.1.stored i (.int .u8 86)
      rw [byteVals_set _ i 86 86 rfl, List.set_set] at st2
      have hb2 := hb1.grown st2.2 hb1.size (fun k hk => by cases hk; exact Nat.le_refl _)
      have c3 := st1.1.frozenAt i
      have c4 := st1.1.cellAt i (by omega)
      rw [List.getElem?_eq_getElem (by simp [byteVals_len]; omega)] at c4
      have he : ∀ c : UInt8, bitL k (n - 1 - i) = c → ∀ j, j < i + 1 → (bs.set i c)[j]? = some (bitL k (n - 1 - j)) := by
        intro c hc j hj
        rw [List.getElem?_set]
        by_cases hji : i = j
        · subst hji; rw [if_pos rfl, if_pos (by omega), hc]
        · rw [if_neg hji]; exact HE.out j (by omega)
      have hbits : bits .and .i64 ((k : Int) / 2 ^ (n - 1 - i)) 1 = ((k / 2 ^ (n - 1 - i) % 2 : Nat) : Int) := by
        rw [shr_nat]
        exact i64_and_one _ (Nat.lt_of_le_of_lt (Nat.div_le_self _ _) (by omega))
      have S1 := Lib.hid (show _ ∧ _ ∧ _ from ⟨st1.1, hb1, he⟩)
      have S2 := Lib.hid (show _ ∧ _ from ⟨st2.1, hb2⟩)
      clear st1 st2 hb1 hb2 he hown hbel HE HB HO HR
      by_cases q : k / 2 ^ (n - 1 - i) % 2 = 0
      · have d1 : (bits .and .i64 ((k : Int) / 2 ^ (n - 1 - i)) 1 == 1) = false := by rw [hbits, q]; rfl
        have hb : bitL k (n - 1 - i) = 77 := if_pos q
        have HBB := Lib.hid hb
        clear hb q hbits
        go_wp2_with fail
        go_roundg g
        case measure => omega
        case rel => exact ⟨i + 1, bs.set i 77, by omega, by go_num, by omega, S1.out.2.1, by simp [hlen], S1.out.2.2 77 HBB.out, S1.out.1⟩
      · have d1 : (bits .and .i64 ((k : Int) / 2 ^ (n - 1 - i)) 1 == 1) = true := by rw [hbits, show k / 2 ^ (n - 1 - i) % 2 = 1 from by omega]; rfl
        have hb : bitL k (n - 1 - i) = 86 := if_neg q
        have HBB := Lib.hid hb
        clear hb q hbits
        go_wp2_with fail
        go_roundg g
        case measure => omega
        case rel => exact ⟨i + 1, bs.set i 86, by omega, by go_num, by omega, S2.out.2, by simp [hlen], S1.out.2.2 86 HBB.out, S2.out.1⟩
    · obtain rfl : i = n := by omega
      have hbe : bs = txtL i k := ext_txtL i k bs hlen HE.out
      subst hbe
      have ho : OwnB wr w.heap.size (.slice (some ⟨w.heap.size, 0, none⟩) i i) (txtL i k) := by
        have := hown; rw [← hlen] at this; simpa [OwnB, txtL_len] using this
      have hst : (convert 22 9 (.slice (some ⟨w.heap.size, 0, none⟩) i i)).run Try.prog wr = .ok (.string (txt i k)) wr := run_ownB_string ho
      clear ho hown HB HO HR
      go_wp2_with fail
      go_ret
      exact ⟨rfl, hbel⟩
end Go.Proofs.Ytnccpifdajcejaa
namespace Go.Proofs.Ytnccpifdajcejaa
open Go.RowKit

/-- for how many of the first m texts the vertex folds -/
def cntV (xs : List Int) : Nat → Nat
  | 0 => 0
  | m + 1 => cntV xs m + (if vfB xs (txt xs.length m) then 1 else 0)
def vmI (xs : List Int) : Int := if avB xs then (cntV xs (2 ^ xs.length) : Int) else -1
/-- the first of g ranks from k on whose text folds -/
def fstV (xs : List Int) : Nat → Nat → Option Nat
  | _, 0 => none
  | k, g + 1 => if vfB xs (txt xs.length k) then some k else fstV xs (k + 1) g
def vfo (xs : List Int) : Option Nat := if avB xs then fstV xs 0 (2 ^ xs.length) else none
def vfoT (xs : List Int) : ByteArray := match vfo xs with | some k => txt xs.length k | none => ByteArray.empty
theorem cntV_le (xs : List Int) (m : Nat) : cntV xs m ≤ m := by
  induction m with
  | zero => exact Nat.le_refl _
  | succ m ih => unfold cntV; split <;> omega
theorem pow_le_1024 {n : Nat} (h : n ≤ 10) : 2 ^ n ≤ 1024 := Nat.pow_le_pow_right (by decide : 1 ≤ 2) h
theorem wrap_pow {n P : Nat} (h : P = 2 ^ n) (hP : P ≤ 1024) : wrap64 (2 ^ n) = (P : Int) := by
  rw [show (2 : Int) ^ n = ((2 ^ n : Nat) : Int) from by simp, ← h]
  unfold wrap64; omega
theorem fstV_none {xs : List Int} (h : ∀ s, vfB xs s = false) (g k : Nat) : fstV xs k g = none := by
  induction g generalizing k with
  | zero => rfl
  | succ g ih => rw [fstV, h, if_neg (by decide)]; exact ih _
theorem vfo_ac {xs : List Int} (h : acB xs = false) : vfo xs = none := by
  unfold vfo
  split
  · exact fstV_none (fun s => by unfold vfB; rw [h]; rfl) _ _
  · rfl
theorem vfo_av {xs : List Int} (h : avB xs = false) : vfo xs = none := by
  unfold vfo; rw [h]; rfl
theorem fstV_step (xs : List Int) (k P : Nat) (h : k < P) : fstV xs k (P - k) = if vfB xs (txt xs.length k) then some k else fstV xs (k + 1) (P - (k + 1)) := by
  rw [show P - k = (P - (k + 1)) + 1 from by omega]; rfl

set_option maxHeartbeats 1000000 in
theorem impl_VertexMany (A : Option Addr) (cap : Nat) (xs : List Int) (w : World) (h : Ints w A xs) (hl : xs.length ≤ maxLen) :
    Calls Try.prog 39 #[.slice A xs.length cap] w fun e w' => e = .returned (.int .i64 (vmI xs)) ∧ Below w.heap.size w w' := by
  cases hv : avB xs with
  | false =>
    have HV := Lib.hid hv; clear hv
    go_enter Try.func39, Try.ntmps39
    go_wp2_with fail
    refine (impl_AnglesValid A cap xs w h hl).mono ?_
    rintro e w' ⟨rfl, rfl⟩
    rw [HV.out]
    go_wp2_with fail
    go_ret
    exact ⟨by unfold vmI; rw [HV.out]; rfl, Below.refl _ _⟩
  | true =>
    obtain ⟨_, h2, h10, hx, _⟩ := avB_parts hv
    have HV := Lib.hid hv; clear hv
    have HX := Lib.hid hx; clear hx
    obtain ⟨P, hPe⟩ : ∃ P, P = 2 ^ xs.length := ⟨_, rfl⟩
    have hP : P ≤ 1024 := hPe ▸ pow_le_1024 h10
    have hwr : wrap64 (2 ^ xs.length) = (P : Int) := wrap_pow hPe hP
    have HP := Lib.hid hPe; clear hPe
    go_enter Try.func39, Try.ntmps39
    go_wp2_with fail
    refine (impl_AnglesValid A cap xs w h hl).mono ?_
    rintro e w' ⟨rfl, rfl⟩
    rw [HV.out]
    go_wp2_with fail
    go_loopg [4, 5] (P + 1) (fun g s4 s5 wr => ∃ (k c : Nat), k ≤ P ∧ s5 = .int .i64 k ∧ s4 = .int .i64 c ∧ c ≤ k ∧ Hid (c = cntV xs k) ∧ P - k < g ∧ Below w.heap.size w wr)
    case atStart => exact ⟨0, 0, Nat.zero_le _, rfl, rfl, Nat.le_refl _, rfl, by omega, Below.refl _ _⟩
    case round =>
      obtain ⟨k, c, hk, rfl, rfl, hck, HC, hg, hbel⟩ := hrel
      have hw := h.below hbel
      have hsz := hbel.size
      cases gk with
      | zero => omega
      | succ g =>
      by_cases hlt : k < P
      · go_wp2_with fail
        refine (impl_foldsOfNumber xs.length k wr (by omega) (by omega)).mono ?_
        rintro e w1 ⟨rfl, hb1⟩
        have hbel1 := hbel.trans (hb1.mono hsz)
        have hsz1 := hbel1.size
        have hw1 := h.below hbel1
        have hts := txt_size xs.length k
        have HTS := Lib.hid hts
        clear hb1 hw hts
        go_wp2_with fail
        refine (impl_VertexFolds A cap xs (txt xs.length k) w1 hw1 hl (by rw [HTS.out]; exact hl)).mono ?_
        rintro e w2 ⟨rfl, hb2⟩
        have hbel2 := hbel1.trans (hb2.mono hsz1)
        cases hvf : vfB xs (txt xs.length k) with
        | true =>
          have hc1 : c + 1 = cntV xs (k + 1) := by show _ = cntV xs k + _; rw [hvf, ← HC.out]; rfl
          have HC1 := Lib.hid hc1
          clear hvf hc1 hb2 hw1 hbel hbel1
          go_wp2_with fail
          go_roundg g
          case measure => omega
          case rel => exact ⟨k + 1, c + 1, by omega, by go_num, by go_num, by omega, HC1, by omega, hbel2⟩
        | false =>
          have hc1 : c = cntV xs (k + 1) := by show _ = cntV xs k + _; rw [hvf, ← HC.out]; rfl
          have HC1 := Lib.hid hc1
          clear hvf hc1 hb2 hw1 hbel hbel1
          go_wp2_with fail
          go_roundg g
          case measure => omega
          case rel => exact ⟨k + 1, c, by omega, by go_num, rfl, by omega, HC1, by omega, hbel2⟩
      · obtain rfl : k = P := by omega
        go_wp2_with fail
        go_ret
        exact ⟨by unfold vmI; rw [HV.out, if_pos rfl, ← HP.out, ← HC.out]; rfl, hbel⟩


end Go.Proofs.Ytnccpifdajcejaa
namespace Go.Proofs.Ytnccpifdajcejaa

/-- for how many texts with n letters a test holds -/
def cntT : Nat → (List UInt8 → Bool) → Nat
  | 0, P => if P [] then 1 else 0
  | n + 1, P => cntT n (fun l => P (77 :: l)) + cntT n (fun l => P (86 :: l))
theorem cntT_congr {n : Nat} {P Q : List UInt8 → Bool} (h : ∀ l, l.length = n → P l = Q l) : cntT n P = cntT n Q := by
  induction n generalizing P Q with
  | zero => rw [cntT, cntT, h [] rfl]
  | succ n ih =>
    rw [cntT, cntT, ih (Q := fun l => Q (77 :: l)) (fun l hl => h (77 :: l) (by simp [hl])), ih (Q := fun l => Q (86 :: l)) (fun l hl => h (86 :: l) (by simp [hl]))]
theorem cntT_mono {n : Nat} {P Q : List UInt8 → Bool} (h : ∀ l, l.length = n → P l = true → Q l = true) : cntT n P ≤ cntT n Q := by
  induction n generalizing P Q with
  | zero =>
    rw [cntT, cntT]
    by_cases e : P [] = true
    · rw [if_pos e, if_pos (h [] rfl e)]; exact Nat.le_refl _
    · rw [if_neg e]; exact Nat.zero_le _
  | succ n ih =>
    rw [cntT, cntT]
    exact Nat.add_le_add (ih (Q := fun l => Q (77 :: l)) (fun l hl => h (77 :: l) (by simp [hl]))) (ih (Q := fun l => Q (86 :: l)) (fun l hl => h (86 :: l) (by simp [hl])))
theorem cntT_snoc (n : Nat) (P : List UInt8 → Bool) : cntT (n + 1) P = cntT n (fun l => P (l ++ [77])) + cntT n (fun l => P (l ++ [86])) := by
  induction n generalizing P with
  | zero => rfl
  | succ n ih =>
    rw [cntT, ih, ih]
    rw [cntT, cntT]
    simp only [List.cons_append]
    omega
theorem cntT_turn (n : Nat) (P Q : List UInt8 → Bool) (h : ∀ c l, l.length = n → P (l ++ [c]) = Q (c :: l)) : cntT (n + 1) P = cntT (n + 1) Q := by
  rw [cntT_snoc, cntT]
  rw [cntT_congr (Q := fun l => Q (77 :: l)) (fun l hl => h 77 l hl), cntT_congr (P := fun l => P (l ++ [86])) (Q := fun l => Q (86 :: l)) (fun l hl => h 86 l hl)]
theorem cntT_swap (n : Nat) (P : List UInt8 → Bool) : cntT n (fun l => P (l.map swB)) = cntT n P := by
  induction n generalizing P with
  | zero => rfl
  | succ n ih =>
    rw [cntT, cntT]
    have e1 := ih (fun l => P (86 :: l))
    have e2 := ih (fun l => P (77 :: l))
    have e3 : swB 77 = 86 := rfl
    have e4 : swB 86 = 77 := rfl
    simp only [List.map_cons, e3, e4]
    omega
theorem cntT_even (n : Nat) (P : List UInt8 → Bool) (h : ∀ l, P (l.map swB) = P l) : cntT (n + 1) P % 2 = 0 := by
  rw [cntT]
  have e : cntT n (fun l => P (86 :: l)) = cntT n (fun l => P (77 :: l)) := by
    rw [← cntT_swap n (fun l => P (77 :: l))]
    apply cntT_congr
    intro l _
    rw [← h (86 :: l)]
    rfl
  omega
theorem cntT_pos {n : Nat} {P : List UInt8 → Bool} {l : List UInt8} (hl : l.length = n) (hm : ∀ c ∈ l, mvB c = true) (h : P l = true) : 0 < cntT n P := by
  induction n generalizing P l with
  | zero =>
    have : l = [] := List.eq_nil_of_length_eq_zero hl
    subst this
    rw [cntT, if_pos h]; exact Nat.one_pos
  | succ n ih =>
    cases l with
    | nil => simp at hl
    | cons c r =>
      rw [cntT]
      have hc := hm c (by simp)
      have hr : ∀ c ∈ r, mvB c = true := fun d hd => hm d (by simp [hd])
      unfold mvB at hc
      simp only [Bool.or_eq_true, decide_eq_true_eq] at hc
      rcases hc with e | e
      · have : c = 77 := UInt8.toNat_inj.1 (by rw [e]; rfl)
        subst this
        have := ih (P := fun l => P (77 :: l)) (by simpa using hl) hr h
        omega
      · have : c = 86 := UInt8.toNat_inj.1 (by rw [e]; rfl)
        subst this
        have := ih (P := fun l => P (86 :: l)) (by simpa using hl) hr h
        omega
theorem cntT_zero {n : Nat} {P : List UInt8 → Bool} (h : ∀ l, P l = false) : cntT n P = 0 := by
  induction n generalizing P with
  | zero => rw [cntT, h]; rfl
  | succ n ih => rw [cntT, ih (fun l => h _), ih (fun l => h _)]

/-- by rank -/
def cntK (n : Nat) (P : List UInt8 → Bool) : Nat → Nat
  | 0 => 0
  | m + 1 => cntK n P m + (if P (txtL n m) then 1 else 0)
theorem cntK_congr {n n' m : Nat} {P Q : List UInt8 → Bool} (h : ∀ k, k < m → P (txtL n k) = Q (txtL n' k)) : cntK n P m = cntK n' Q m := by
  induction m with
  | zero => rfl
  | succ m ih => rw [cntK, cntK, ih (fun k hk => h k (by omega)), h m (by omega)]
theorem cntK_add (n : Nat) (P : List UInt8 → Bool) (a m : Nat) (Q : List UInt8 → Bool) (n' : Nat) (h : ∀ k, k < m → P (txtL n (a + k)) = Q (txtL n' k)) : cntK n P (a + m) = cntK n P a + cntK n' Q m := by
  induction m with
  | zero => rfl
  | succ m ih => rw [← Nat.add_assoc, cntK, ih (fun k hk => h k (by omega)), cntK, h m (by omega)]; omega
theorem bitL_low {k n : Nat} (h : k < 2 ^ n) : bitL k n = 77 := by
  unfold bitL
  rw [Nat.div_eq_of_lt h]; rfl
theorem bitL_high {k n : Nat} (h : k < 2 ^ n) : bitL (2 ^ n + k) n = 86 := by
  unfold bitL
  rw [show 2 ^ n + k = k + 2 ^ n * 1 from by omega, Nat.add_mul_div_left _ _ (Nat.two_pow_pos n), Nat.div_eq_of_lt h]; rfl
theorem bitL_drop {k n i : Nat} (h : i < n) : bitL (2 ^ n + k) i = bitL k i := by
  unfold bitL
  have e : (2 : Nat) ^ n = 2 ^ i * (2 * 2 ^ (n - i - 1)) := by
    rw [← Nat.pow_succ', ← Nat.pow_add]; congr 1; omega
  rw [e, Nat.add_comm, Nat.add_mul_div_left _ _ (Nat.two_pow_pos i), Nat.add_mul_mod_self_left]
theorem txtL_drop {k n m : Nat} (h : m ≤ n) : txtL m (2 ^ n + k) = txtL m k := by
  induction m with
  | zero => rfl
  | succ m ih => rw [txtL, txtL, ih (by omega), bitL_drop (by omega)]
theorem cntK_T (n : Nat) (P : List UInt8 → Bool) : cntK n P (2 ^ n) = cntT n P := by
  induction n generalizing P with
  | zero => rw [Nat.pow_zero, cntK, cntK, cntT, txtL, Nat.zero_add]
  | succ n ih =>
    rw [Nat.pow_succ, Nat.mul_two, cntK_add (n + 1) P (2 ^ n) (2 ^ n) (fun l => P (86 :: l)) n (fun k hk => by rw [txtL, bitL_high hk, txtL_drop (Nat.le_refl _)]), cntT, ← ih, ← ih]
    congr 1
    exact cntK_congr fun k hk => by rw [txtL, bitL_low hk]
theorem cntV_K (xs : List Int) (m : Nat) : cntV xs m = cntK xs.length (fun l => vfB xs (bts l)) m := by
  induction m with
  | zero => rfl
  | succ m ih => rw [cntV, cntK, ih]; rfl
theorem cntV_T (xs : List Int) : cntV xs (2 ^ xs.length) = cntT xs.length (fun l => vfB xs (bts l)) := by rw [cntV_K, cntK_T]

/-- a vertex turned by one -/
theorem cntT_turn1 (x : Int) (r : List Int) : cntT (r ++ [x]).length (fun l => vfB (r ++ [x]) (bts l)) = cntT (x :: r).length (fun l => vfB (x :: r) (bts l)) := by
  rw [List.length_append, List.length_cons]
  apply cntT_turn
  intro c l hl
  have hl' : r.length = l.length := hl.symm
  exact vf_turn (u := [x]) (v := r) (u' := [c]) (v' := l) rfl hl'
theorem cntT_turns (u v : List Int) : cntT (v ++ u).length (fun l => vfB (v ++ u) (bts l)) = cntT (u ++ v).length (fun l => vfB (u ++ v) (bts l)) := by
  induction u generalizing v with
  | nil => simp
  | cons x u ih =>
    have h1 := cntT_turn1 x (u ++ v)
    have h2 := ih (v ++ [x])
    simp only [List.append_assoc, List.cons_append, List.nil_append] at h1 h2 ⊢
    rw [h2, h1]
theorem vm_turn (u v : List Int) : vmI (v ++ u) = vmI (u ++ v) := by
  have hav : avB (v ++ u) = avB (u ++ v) := by rw [Bool.eq_iff_iff]; exact ⟨avB_turn, avB_turn⟩
  unfold vmI
  rw [hav, cntV_T, cntV_T, cntT_turns]
theorem vm_even {xs : List Int} (h : avB xs = true) : vmI xs % 2 = 0 := by
  unfold vmI
  rw [if_pos h, cntV_T]
  obtain ⟨n, hn⟩ : ∃ n, xs.length = n + 1 := ⟨xs.length - 1, by have := (avB_parts h).2.1; omega⟩
  have := cntT_even n (fun l => vfB xs (bts l)) (fun l => vf_swap xs l)
  rw [← hn] at this
  omega
/-- balances of two -/
def bal2 (l : List UInt8) : Bool := balT l == 2 || balT l == -2
theorem cnt_bal2 : cntT 2 bal2 = 2 ∧ cntT 4 bal2 = 8 ∧ cntT 6 bal2 = 30 ∧ cntT 8 bal2 = 112 := by decide +kernel
theorem vf_bal2 {xs : List Int} {l : List UInt8} (h : vfB xs (bts l) = true) : bal2 l = true := by
  unfold bal2
  rcases vf_bal h with e | e <;> rw [e] <;> rfl
theorem vm_le {xs : List Int} {n m : Nat} (hn : xs.length = n) (hm : cntT n bal2 = m) (h : avB xs = true) : vmI xs ≤ (m : Int) := by
  unfold vmI
  rw [if_pos h, cntV_T, hn]
  have := cntT_mono (n := n) (P := fun l => vfB xs (bts l)) (Q := bal2) (fun l _ hl => vf_bal2 hl)
  omega

/-- the least of a list stands behind another one, read round -/
theorem least_round {xs : List Int} (h : 4 ≤ xs.length) : ∃ u v a b c rest, xs = u ++ v ∧ v ++ u = a :: b :: c :: rest ∧ ∀ x ∈ xs, b ≤ x := by
  have hmin : ∃ b ∈ xs, ∀ x ∈ xs, b ≤ x := by
    have : ∀ l : List Int, l ≠ [] → ∃ b ∈ l, ∀ x ∈ l, b ≤ x := by
      intro l
      induction l with
      | nil => intro h; exact absurd rfl h
      | cons y r ih =>
        intro _
        cases hr : r with
        | nil => exact ⟨y, by simp, by simp⟩
        | cons z t =>
          obtain ⟨b, hb, hbm⟩ := ih (by rw [hr]; simp)
          rw [← hr]
          by_cases e : y ≤ b
          · exact ⟨y, by simp, fun x hx => by rcases List.mem_cons.1 hx with rfl | hx; exact Int.le_refl _; exact Int.le_trans e (hbm x hx)⟩
          · exact ⟨b, by simp [hb], fun x hx => by rcases List.mem_cons.1 hx with rfl | hx; omega; exact hbm x hx⟩
    exact this xs (by intro e; subst e; simp at h)
  obtain ⟨b, hb, hbm⟩ := hmin
  obtain ⟨p, q, rfl⟩ := List.append_of_mem hb
  rcases List.eq_nil_or_concat p with rfl | ⟨p', a, rfl⟩
  · rcases List.eq_nil_or_concat q with rfl | ⟨q', a, rfl⟩
    · simp at h
    · cases q' with
      | nil => simp at h
      | cons c rest => exact ⟨b :: c :: rest, [a], a, b, c, rest, by simp, by simp, hbm⟩
  · have hq : ∃ c rest, q ++ p' = c :: rest := by
      cases hqp : q ++ p' with
      | nil =>
        have e3 : (q ++ p').length = 0 := by rw [hqp]; rfl
        rw [List.length_append] at e3
        simp at h
        omega
      | cons c rest => exact ⟨c, rest, rfl⟩
    obtain ⟨c, rest, e⟩ := hq
    exact ⟨p', a :: b :: q, a, b, c, rest, by simp, by simp [e], hbm⟩
/-- every balanced ring has folds that come down -/
theorem kawa : ∀ (g : Nat) (xs : List Int), xs.length = 2 * g + 2 → altS xs = 0 → ∃ cs : List UInt8, cs.length = xs.length ∧ (∀ c ∈ cs, mvB c = true) ∧ Down (wl xs cs) := by
  intro g
  induction g with
  | zero =>
    intro xs hl ha
    match xs, hl with
    | [a, b], _ =>
      simp [altS] at ha
      have : a = b := by omega
      subst this
      exact ⟨[77, 77], rfl, by intro c hc; simp at hc; subst hc; rfl, .two a 77 _ (rot_mk [Ltr.F 77] [.X a, .F 77, .X a])⟩
  | succ g ih =>
    intro xs hl ha
    obtain ⟨u, v, a, b, c, rest, e1, e2, hmin⟩ := least_round (xs := xs) (by omega)
    have hal : altS (a :: b :: c :: rest) = 0 := by
      rw [← e2]
      rw [e1] at ha hl
      exact (altS_turn (by omega)).2 ha
    have hlen : rest.length + 3 = xs.length := by
      have := congrArg List.length e2
      rw [e1]
      simp at this ⊢
      omega
    obtain ⟨cs, hcl, hcm, hd⟩ := ih ((a + c - b) :: rest) (by simp; omega) (by simp only [altS] at hal ⊢; omega)
    cases cs with
    | nil => simp at hcl
    | cons d ds =>
      have hdl : ds.length = rest.length := by simpa using hcl
      -- the folds of the turned ring
      have hD : Down (wl (v ++ u) (d :: 77 :: 86 :: ds)) := by
        rw [e2]
        have q1 : Rot (wl (a :: b :: c :: rest) (d :: 77 :: 86 :: ds)) (Ltr.X a :: .F 77 :: .X b :: .F 86 :: .X c :: (wl rest ds ++ [Ltr.F d.toNat])) := rot_mk [Ltr.F d.toNat] (Ltr.X a :: .F 77 :: .X b :: .F 86 :: .X c :: wl rest ds)
        have q2 : Rot (Ltr.X (a + c - b) :: (wl rest ds ++ [Ltr.F d.toNat])) (wl ((a + c - b) :: rest) (d :: ds)) := rot_mk (Ltr.X (a + c - b) :: wl rest ds) [Ltr.F d.toNat]
        refine .step _ _ (step_mk q1 q2 (by decide) ?_ ?_) hd
        · intro x hx
          apply hmin
          have hx2 : x ∈ a :: b :: c :: rest := by
            have : ∀ (ys : List Int) (es : List UInt8), Ltr.X x ∈ wl ys es → x ∈ ys := by
              intro ys
              induction ys with
              | nil => intro es h; simp [wl] at h
              | cons y ys ih2 =>
                intro es h
                cases es with
                | nil => simp [wl] at h
                | cons e es =>
                  simp [wl] at h
                  rcases h with h | h
                  · exact List.mem_cons.2 (Or.inl h)
                  · exact List.mem_cons.2 (Or.inr (ih2 es h))
            exact this _ _ hx
          rw [← e2] at hx2
          rw [e1]
          rw [List.mem_append] at hx2 ⊢
          exact hx2.symm
        · have : (wl rest ds).length = 2 * rest.length := by
            have : ∀ (ys : List Int) (es : List UInt8), es.length = ys.length → (wl ys es).length = 2 * ys.length := by
              intro ys
              induction ys with
              | nil => intro es h; cases es <;> rfl
              | cons y ys ih2 =>
                intro es h
                cases es with
                | nil => simp at h
                | cons e es => simp [wl, ih2 es (by simpa using h)]; omega
            exact this _ _ hdl
          simp; omega
      obtain ⟨F, hF⟩ : ∃ F, F = d :: 77 :: 86 :: ds := ⟨_, rfl⟩
      have hFl : F.length = v.length + u.length := by
        have := congrArg List.length e2
        rw [hF]; simp at this ⊢; omega
      have hFm : ∀ c ∈ F, mvB c = true := by
        rw [hF]; intro c hc
        simp at hc
        rcases hc with rfl | rfl | rfl | hc
        · exact hcm _ (by simp)
        · rfl
        · rfl
        · exact hcm _ (by simp [hc])
      rw [← hF] at hD
      refine ⟨F.drop v.length ++ F.take v.length, by rw [e1]; simp; omega, ?_, ?_⟩
      · intro c hc
        rw [List.mem_append] at hc
        rcases hc with hc | hc
        · exact hFm c (List.mem_of_mem_drop hc)
        · exact hFm c (List.mem_of_mem_take hc)
      · rw [← List.take_append_drop v.length F, wl_app (by rw [List.length_take]; omega)] at hD
        rw [e1, wl_app (by rw [List.length_drop]; omega)]
        exact hD.rot (rot_mk _ _)
theorem vm_pos {xs : List Int} (h : avB xs = true) : decide (0 < vmI xs) = acB xs := by
  have hv := avB_parts h
  cases ha : acB xs with
  | false =>
    have e : vmI xs = 0 := by
      unfold vmI
      rw [if_pos h, cntV_T, cntT_zero (fun l => by unfold vfB; rw [ha]; rfl)]; rfl
    rw [e]; rfl
  | true =>
    obtain ⟨cs, hl, hm, hd⟩ := kawa ((xs.length - 2) / 2) xs (by omega) ((acB_iff xs).1 ha).2
    have hp : 0 < cntT xs.length (fun l => vfB xs (bts l)) := by
      refine cntT_pos (l := cs) hl hm (vfB_down.2 ⟨ha, ?_, hd⟩)
      rw [bts_list, fvB_iff]
      exact ⟨by omega, hm⟩
    rw [decide_eq_true_eq]
    unfold vmI
    rw [if_pos h, cntV_T]; omega
end Go.Proofs.Ytnccpifdajcejaa
