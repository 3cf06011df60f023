/- The reference's 'l1Text' and 'l1Power': the text of so many folds with a rank, a power of two. No condition but sizes. The program's 'list': the angles and folds of a ring from its first crease on. No condition but sizes. The program's VertexCrimps and VertexCrimp. No condition but sizes. The reference's VertexCrimps and VertexCrimp: as the program's. No condition but sizes. Slices of texts in memory: a slice that reads as a list of texts, a row of the call's own, append to it. No condition but sizes. What the ring of linked creases folds down to is what its word, read round, comes down to. No condition but sizes. What turning, reading backwards and exchanging folds do to a vertex that folds; its balance; what a crimp does to sums. No condition but sizes. -/
import Derived.Test.YtkdlipbegdiaaaaGreatDoorEzBP6
import Derived.Test.YtkdlipbegdiaaaaGreatDoorEzBP4
import Derived.Test.YtkdlipbegdiaaaaGreatDoorEzBP5
import Derived.Test.YtkdlipbegdiaaaaGreatDoorEzBP3
import Derived.Sort.EncStr
import Derived.Test.YtkdlipbegdiaaaaGreatDoorEzBP1
namespace Go.Proofs.YtkdlipbegdiaaaaGreatDoor
open Go.RowKit
/-- the letter of a bit -/
def bitL (k i : Nat) : UInt8 := if (k / 2 ^ i) % 2 = 0 then 77 else 86
def txtL : Nat → Nat → List UInt8
  | 0, _ => []
  | i + 1, k => bitL k i :: txtL i k
def txt (n k : Nat) : ByteArray := ⟨(txtL n k).toArray⟩
theorem txtL_len (n k : Nat) : (txtL n k).length = n := by
  induction n with
  | zero => rfl
  | succ n ih => simp [txtL, ih]
theorem txt_size (n k : Nat) : (txt n k).size = n := by simp [txt, ByteArray.size, txtL_len]
theorem txt_succ (i k : Nat) : ByteArray.mk #[bitL k i] ++ txt i k = txt (i + 1) k := ByteArray.mk_append_mk [bitL k i] (txtL i k)
theorem txtL_get (n k i : Nat) (h : i < n) : (txtL n k)[i]? = some (bitL k (n - 1 - i)) := by
  induction n generalizing i with
  | zero => omega
  | succ n ih =>
    cases i with
    | zero => simp [txtL]
    | succ i =>
      rw [txtL, List.getElem?_cons_succ, ih i (by omega)]
      congr 2; omega
set_option maxHeartbeats 1000000 in
theorem spec_l1Text (n k : Nat) (w : World) (hn : n ≤ 100) (hk : k ≤ 1000000000000) :
    Calls Tryz.prog 59 #[.int .i64 n, .int .i64 k] w fun e w' => e = .returned (.string (txt n k)) ∧ w = w' := by
  go_enter Tryz.func59, Tryz.ntmps59
  go_wp2_with fail
  go_loop [1, 5, 6] (fun s1 s5 s6 => ∃ (i r : Nat) (t : ByteArray), i ≤ n ∧ s6 = .int .i64 i ∧ s1 = .int .i64 r ∧ s5 = .string t ∧ r ≤ k ∧ t.size ≤ 100 ∧ Hid (t.size = i) ∧ Hid (t = txt i k) ∧ Hid (r = k / 2 ^ i)) (fun _ _ s6 => n - (intOf s6).toNat)
  case atStart => exact ⟨0, k, _, Nat.zero_le _, rfl, rfl, rfl, Nat.le_refl _, by decide, rfl, rfl, by show k = k / 2 ^ 0; simp⟩
  case round =>
    obtain ⟨i, r, t, hi, rfl, rfl, rfl, hr, hts, HT, HE, HR⟩ := hrel
    have hrn : Hid (r / 2 = k / 2 ^ (i + 1)) := by show _ = _; rw [HR.out, Nat.pow_succ, Nat.div_div_eq_div_mul]
    by_cases hlt : i < n
    · have h63 : (1 : Nat) + t.size ≤ 9223372036854775807 := by omega
      by_cases q : r % 2 = 0
      · have d1 : (((r : Int) % 2) == 0) = true := by simp; omega
        have hb : bitL k i = 77 := by unfold bitL; rw [← HR.out, if_pos q]
        have HB := Lib.hid hb
        have b12 : ∀ W, (Op.stringOp .add (ByteArray.mk #[77]) t).run Tryz.prog W = .ok (.string (ByteArray.mk #[77] ++ t)) W := fun W => run_string_add_sum W _ _ h63
        clear q hb h63
        go_wp2_with fail
        go_round
        case rel => exact ⟨i + 1, r / 2, _, by omega, by go_num, by go_num, rfl, by omega, by rw [ByteArray.size_append]; have := HT.out; show 1 + t.size ≤ 100; omega, by show _ = _; rw [ByteArray.size_append, HT.out]; show 1 + i = i + 1; omega, by show _ = _; rw [HE.out, ← txt_succ, HB.out], hrn⟩
        case measure => simp [intOf]; omega
      · have d1 : (((r : Int) % 2) == 0) = false := by rw [beq_eq_false_iff_ne]; omega
        have hb : bitL k i = 86 := by unfold bitL; rw [← HR.out, if_neg q]
        have HB := Lib.hid hb
        have b12 : ∀ W, (Op.stringOp .add (ByteArray.mk #[86]) t).run Tryz.prog W = .ok (.string (ByteArray.mk #[86] ++ t)) W := fun W => run_string_add_sum W _ _ h63
        clear q hb h63
        go_wp2_with fail
        go_round
        case rel => exact ⟨i + 1, r / 2, _, by omega, by go_num, by go_num, rfl, by omega, by rw [ByteArray.size_append]; have := HT.out; show 1 + t.size ≤ 100; omega, by show _ = _; rw [ByteArray.size_append, HT.out]; show 1 + i = i + 1; omega, by show _ = _; rw [HE.out, ← txt_succ, HB.out], hrn⟩
        case measure => simp [intOf]; omega
    · obtain rfl : i = n := by omega
      go_wp2_with fail
      go_ret
      exact ⟨by rw [← HE.out]; rfl, rfl⟩
set_option maxHeartbeats 400000 in
theorem spec_l1Power (n : Nat) (w : World) (hn : n ≤ 40) :
    Calls Tryz.prog 58 #[.int .i64 n] w fun e w' => e = .returned (.int .i64 ((2 ^ n : Nat) : Int)) ∧ w = w' := by
  go_enter Tryz.func58, Tryz.ntmps58
  go_wp2_with fail
  go_loop [3, 4] (fun s3 s4 => ∃ (i p : Nat), i ≤ n ∧ s4 = .int .i64 i ∧ s3 = .int .i64 p ∧ p ≤ 1099511627776 ∧ Hid (p = 2 ^ i)) (fun _ s4 => n - (intOf s4).toNat)
  case atStart => exact ⟨0, 1, Nat.zero_le _, rfl, rfl, by omega, rfl⟩
  case round =>
    obtain ⟨i, p, hi, rfl, rfl, hp, HP⟩ := hrel
    by_cases hlt : i < n
    · have hp2 : p * 2 ≤ 1099511627776 := by
        have h1 : p * 2 = 2 ^ (i + 1) := by rw [HP.out, Nat.pow_succ]
        have h2 : 2 ^ (i + 1) ≤ 2 ^ 40 := Nat.pow_le_pow_right (by omega) (by omega)
        have h3 : 2 ^ 40 = 1099511627776 := by decide
        omega
      go_wp2_with fail
      go_round
      case rel => exact ⟨i + 1, p * 2, by omega, by go_num, by go_num, hp2, by show _ = _; rw [HP.out, Nat.pow_succ]⟩
      case measure => simp [intOf]; omega
    · obtain rfl : i = n := by omega
      go_wp2_with fail
      go_ret
      exact ⟨ret_int (by rw [HP.out]; simp), rfl⟩
end Go.Proofs.YtkdlipbegdiaaaaGreatDoor
namespace Go.Proofs.YtkdlipbegdiaaaaGreatDoor
open Go.RowKit
def angTo (x : Nat → Int) (k : Nat) : List Int := (List.range k).map x
def folTo (f : Nat → Nat) (k : Nat) : List UInt8 := (List.range k).map fun i => UInt8.ofNat (f i)
theorem angTo_succ (x : Nat → Int) (k : Nat) : angTo x (k + 1) = angTo x k ++ [x k] := by simp [angTo, List.range_succ]
theorem folTo_succ (f : Nat → Nat) (k : Nat) : folTo f (k + 1) = folTo f k ++ [UInt8.ofNat (f k)] := by simp [folTo, List.range_succ]
theorem angTo_len (x : Nat → Int) (k : Nat) : (angTo x k).length = k := by simp [angTo]
theorem folTo_len (f : Nat → Nat) (k : Nat) : (folTo f k).length = k := by simp [folTo]
theorem angleAt_angTo (x : Nat → Int) {n k : Nat} (h : k < n) : angleAt (angTo x n) k = x k := by
  simp [angleAt, angTo, List.getD_eq_getElem?_getD, h]
theorem byteAt_folTo (f : Nat → Nat) {n k : Nat} (h : k < n) (hf : f k < 256) : byteAt ⟨(folTo f n).toArray⟩ k = f k := by
  simp [byteAt, folTo, List.getD_eq_getElem?_getD, h]
  omega
set_option maxHeartbeats 2000000 in
set_option maxRecDepth 100000 in
theorem list_any (w : World) (p n : Nat) (b : Nat → Nat) (x : Nat → Int) (f : Nat → Nat) (h : Ring w p n b x f) (hn0 : 0 < n) (hn : n ≤ 100) (hf : ∀ k, f k < 256) :
    Calls Tryz.prog 157 #[ptr p] w fun e w' => ∃ v, e = .returned (.tuple #[v, .string ⟨(folTo f n).toArray⟩]) ∧ Own w' w.heap.size v (angTo x n) ∧ Below w.heap.size w w' := by
  obtain ⟨i0, hi, hz0, hz1, hz2⟩ := info_parts Tryz.infoInt
  obtain ⟨j0, hj, hy0, hy1, hy2⟩ := info_parts Tryz.infoByte
  have c1 := h.many
  go_enter Tryz.func157, Tryz.ntmps157
  go_wp2_with (at_make; go_loud (refine wpList_make_own _ rfl _ _ 23 rfl w.heap.size 3 i0 (.int .i64 0) 1 Tryz.underlying23 hi hz0 hz1 .i64 .i64 _ n (by rfl) (by rfl) (by rfl) (by rw [hz2]; omega) (by unfold maxLen; omega) (Nat.le_refl _) ?_))
  intro w1 hown1 hg1
  have hb1 : Below w.heap.size w w1 := (Below.refl _ _).grown hg1 (Nat.le_refl _) (by intro k hk; cases hk)
  have hs1 : w.heap.size < w1.heap.size := (hown1.lt _ rfl).2
  have r1 := (h.below hb1).many
  go_wp2_with (at_make; go_loud (refine wpList_make_own _ rfl _ _ 22 rfl (w.heap.size + 1) 5 j0 (.int .u8 0) 1 Tryz.underlying22 hj hy0 hy1 .i64 .i64 _ n (by rfl) (by rfl) (by rfl) (by rw [hy2]; omega) (by unfold maxLen; omega) (by omega) ?_))
  intro w2 hown2 hg2
  have hb2 : Below w.heap.size w w2 := hb1.grown hg2 hb1.size (by intro k hk; cases hk)
  have r2 := (h.below hb2).first
  have hown1' : Own w2 w.heap.size (.slice (some ⟨w.heap.size, 0, none⟩) 0 n) (angTo x 0) := hown1.kept hg2 (Or.inr (by simp [Value.ownBlock]))
  have hown2' : OwnB w2 w.heap.size (.slice (some ⟨w1.heap.size, 0, none⟩) 0 n) (folTo f 0) := by
    obtain ⟨k1, k2⟩ := hown2
    refine ⟨k1, ?_⟩
    rcases k2 with h0 | ⟨g, cap, cur, e, hb, rest⟩
    · exact Or.inl h0
    · exact Or.inr ⟨g, cap, cur, e, by omega, rest⟩
  clear hi hz0 hz1 hz2 hj hy0 hy1 hy2 hown1 hown2 hg1 hg2 hb1 r1 c1
  go_wp2_with fail
  go_loopg [4, 5, 6, 7] (n + 1) (fun g s4 s5 s6 s7 wr => ∃ k, k ≤ n ∧ s7 = .int .i64 k ∧ s6 = ptr (b (if k = n then 0 else k)) ∧ n - k < g ∧ Own wr w.heap.size s4 (angTo x k) ∧ OwnB wr w.heap.size s5 (folTo f k) ∧ Below w.heap.size w wr)
  case atStart => exact ⟨0, Nat.zero_le _, rfl, by rw [if_neg (by omega)], by omega, hown1', hown2', hb2⟩
  case round =>
    obtain ⟨k, hk, rfl, rfl, hg, hownI, hownB, hbel⟩ := hrel
    have R := h.below hbel
    have d1 := R.many
    have hsz := hbel.size
    have lI := angTo_len x k
    have lB := folTo_len f k
    have HLI := Lib.hid lI
    have HLB := Lib.hid lB
    clear lI lB hown1' hown2' hb2 r2 hs1
    cases gk with
    | zero => omega
    | succ g =>
    by_cases hlt : k < n
    · rw [if_neg (Nat.ne_of_lt hlt)]
      have HC := Lib.hid (show b (if k + 1 = n then 0 else k + 1) = b (nxt n k) from rfl)
      have d2 := R.angle hlt
      go_wp2_with (at_builtin; go_loud (refine wpList_push (W := wr) rfl _ _ rfl w.heap.size _ _ (x k) (by rfl) (by rfl) hownI hsz (by rw [HLI.out]; omega) ?_))
      intro v' w3 hownI2 hgr hb3
      have hbel3 := hbel.trans hb3
      have R3 := h.below hbel3
      have hownB3 := hownB.kept hgr (own_ne hownB hownI (by decide))
      have hsz3 := hbel3.size
      have d3 := R3.fold hlt
      have hzb : ((UInt8.ofNat (f k)).toNat : Int) = (f k : Int) := by have := hf k; simp; omega
      have HZ := Lib.hid hzb
      clear hownI hownB hgr hb3 d2 d1 hzb
      go_wp2_with (at_builtin; go_loud (refine wpList_pushB (W := w3) rfl _ _ rfl w.heap.size _ _ (UInt8.ofNat (f k)) _ HZ.out (by rfl) (by rfl) hownB3 hsz3 (by rw [HLB.out]; omega) ?_))
      intro v'' w4 hownB4 hgr4 hb4
      have hownI4 := hownI2.kept hgr4 (own_ne hownI2 hownB3 (by decide))
      have hbel4 := hbel3.trans hb4
      have R4 := h.below hbel4
      have d4 := R4.next hlt
      clear hownI2 hownB3 hgr4 hb4 hbel3 d3
      go_wp2_with fail
      go_roundg g
      case measure => omega
      case rel => exact ⟨k + 1, by omega, by go_num, by rw [HC.out], by omega, by rw [angTo_succ]; exact hownI4, by rw [folTo_succ]; exact hownB4, hbel4⟩
    · obtain rfl : k = n := by omega
      go_wp2_with fail
      have hst : ∀ m, (convert 22 9 _).run Tryz.prog (wr.drewN m) = .ok (.string ⟨(folTo f k).toArray⟩) (wr.drewN m) := fun m => run_ownB_string (w := wr.drewN m) hownB
      go_quiet (fail)
      go_wp2_with fail
      go_ret2
      exact ⟨_, rfl, hownI, below_drewN hbel _⟩
end Go.Proofs.YtkdlipbegdiaaaaGreatDoor
namespace Go.Proofs.YtkdlipbegdiaaaaGreatDoor
open Go.RowKit
/-- the allowed crimps of a vertex -/
def vcL (xs : List Int) (s : ByteArray) : List Int := if avB xs && fvB s.data.toList xs.length then crimpsTo xs.length (angleAt xs) (byteAt s) xs.length else []
def vcrX (xs : List Int) (i : Nat) : List Int := angTo (crimpX xs.length (angleAt xs) i) (xs.length - 2)
def vcrF (xs : List Int) (s : ByteArray) (i : Nat) : ByteArray := ⟨(folTo (fun k => byteAt s (sig xs.length i k)) (xs.length - 2)).toArray⟩
def vcB (xs : List Int) (s : ByteArray) (i : Int) : Bool := decide (i ∈ vcL xs s)
def vcY (xs : List Int) (s : ByteArray) (i : Int) : List Int := if vcB xs s i then vcrX xs i.toNat else []
def vcS (xs : List Int) (s : ByteArray) (i : Int) : ByteArray := if vcB xs s i then vcrF xs s i.toNat else ByteArray.empty
theorem vcL_mem {xs : List Int} {s : ByteArray} {i : Int} (h : i ∈ vcL xs s) : avB xs = true ∧ fvB s.data.toList xs.length = true ∧ 0 ≤ i ∧ i.toNat < xs.length ∧ 4 ≤ xs.length ∧ allowedB xs.length (angleAt xs) (byteAt s) i.toNat = true := by
  unfold vcL at h
  split at h
  · next hc =>
    rw [Bool.and_eq_true] at hc
    unfold crimpsTo at h
    rw [List.mem_map] at h
    obtain ⟨k, hk, rfl⟩ := h
    rw [List.mem_filter, List.mem_range] at hk
    refine ⟨hc.1, hc.2, by simp, by simpa using hk.1, ?_, by simpa using hk.2⟩
    have := hk.2
    unfold allowedB at this
    by_cases h4 : xs.length < 4
    · rw [if_pos h4] at this; cases this
    · omega
  · cases h
set_option maxHeartbeats 800000 in
theorem impl_VertexCrimps (A : Option Addr) (cap : Nat) (xs : List Int) (s : ByteArray) (w : World) (h : Ints w A xs) (hl : xs.length ≤ maxLen) (hs : s.size ≤ maxLen) :
    Calls Tryz.prog 155 #[.slice A xs.length cap, .string s] w fun e w' => ∃ v, e = .returned v ∧ Own w' w.heap.size v (vcL xs s) ∧ Below w.heap.size w w' := by
  cases hv : avB xs with
  | false =>
    have HV := Lib.hid hv; clear hv
    go_enter Tryz.func155, Tryz.ntmps155
    go_wp2_with fail
    refine (impl_AnglesValid A cap xs w h hl).mono ?_
    rintro e w' ⟨rfl, rfl⟩
    rw [HV.out]
    go_wp2_with fail
    go_ret
    exact ⟨_, rfl, by unfold vcL; rw [HV.out]; exact own_empty w (Nat.le_refl _), (Below.refl _ _).alloc (Nat.le_refl _) _⟩
  | true =>
    obtain ⟨_, h2, h10, hx, _⟩ := avB_parts hv
    have HV := Lib.hid hv; clear hv
    have HX := Lib.hid hx; clear hx
    cases hf : fvB s.data.toList xs.length with
    | false =>
      have HF := Lib.hid hf; clear hf
      go_enter Tryz.func155, Tryz.ntmps155
      go_wp2_with fail
      refine (impl_AnglesValid A cap xs w h hl).mono ?_
      rintro e w' ⟨rfl, rfl⟩
      rw [HV.out]
      go_wp2_with fail
      refine (impl_FoldsValid s xs.length w hs).mono ?_
      rintro e w' ⟨rfl, rfl⟩
      rw [HF.out]
      go_wp2_with fail
      go_ret
      exact ⟨_, rfl, by unfold vcL; rw [HV.out, HF.out]; exact own_empty w (Nat.le_refl _), (Below.refl _ _).alloc (Nat.le_refl _) _⟩
    | true =>
      have hsz := fvB_size hf
      have HF := Lib.hid hf; clear hf
      have HS := Lib.hid hsz; clear hsz
      go_enter Tryz.func155, Tryz.ntmps155
      go_wp2_with fail
      refine (impl_AnglesValid A cap xs w h hl).mono ?_
      rintro e w' ⟨rfl, rfl⟩
      rw [HV.out]
      go_wp2_with fail
      refine (impl_FoldsValid s xs.length w hs).mono ?_
      rintro e w' ⟨rfl, rfl⟩
      rw [HF.out]
      go_wp2_with fail
      refine (newRing_any w A cap xs s h (by omega) (by omega) (by have := HS.out; omega) (by have := HS.out; omega)).mono ?_
      rintro e w1 ⟨rfl, R, hb1⟩
      go_wp2_with fail
      refine (crimps_any w1 w.heap.size xs.length _ (angleAt xs) (byteAt s) R (by omega) (by omega) (byteAt_lt s)).mono ?_
      rintro e w2 ⟨v, rfl, hown, hb2⟩
      have hsz1 := hb1.size
      go_wp2_with fail
      go_ret
      refine ⟨_, rfl, ?_, below_from hb1 hb2 hsz1⟩
      unfold vcL
      rw [HV.out, HF.out]
      obtain ⟨k1, k2⟩ := hown
      refine ⟨k1, ?_⟩
      rcases k2 with h0 | ⟨g, cap, cur, e, hb, rest⟩
      · exact Or.inl h0
      · exact Or.inr ⟨g, cap, cur, e, by omega, rest⟩
theorem own_lower {w : World} {B B' : Nat} {e : TypeId} {z n : Nat} {v : Value} {xs : List Value} (h : w.ownsRow B e z v n xs) (hB : B' ≤ B) : w.ownsRow B' e z v n xs := by
  obtain ⟨k1, k2⟩ := h
  refine ⟨k1, ?_⟩
  rcases k2 with h0 | ⟨g, cap, cur, e, hb, rest⟩
  · exact Or.inl h0
  · exact Or.inr ⟨g, cap, cur, e, by omega, rest⟩
theorem mem_drop_step {l r : List Int} {k : Nat} {y i : Int} (h : l.drop k = y :: r) (hne : ¬ y = i) : (i ∈ l.drop k) = (i ∈ r) := by
  rw [h, List.mem_cons]
  simp [show ¬ i = y from fun e => hne e.symm]
set_option maxHeartbeats 2000000 in
theorem impl_VertexCrimp (A : Option Addr) (cap : Nat) (xs : List Int) (s : ByteArray) (i : Int) (w : World) (h : Ints w A xs) (hl : xs.length ≤ maxLen) (hs : s.size ≤ maxLen) :
    Calls Tryz.prog 134 #[.slice A xs.length cap, .string s, .int .i64 i] w fun e w' => ∃ v, e = .returned (.tuple #[v, .string (vcS xs s i), .bool (vcB xs s i)]) ∧ Own w' w.heap.size v (vcY xs s i) ∧ Below w.heap.size w w' := by
  go_enter Tryz.func134, Tryz.ntmps134
  go_wp2_with fail
  refine (impl_VertexCrimps A cap xs s w h hl hs).mono ?_
  rintro e w1 ⟨v, rfl, hown, hb1⟩
  obtain ⟨A1, c1, rfl, hI1, hc1, hm1⟩ := hown.form
  have hlL : (vcL xs s).length ≤ maxLen := Nat.le_trans hc1 hm1
  unfold maxLen at hlL
  have hI := h.below hb1
  clear hown
  go_wp2_with fail
  go_loopg [18] ((vcL xs s).length + 1) (fun g s18 wr => w1 = wr ∧ ∃ k, k ≤ (vcL xs s).length ∧ s18 = .int .i64 k ∧ (vcL xs s).length - k < g ∧ Hid ((i ∈ vcL xs s) = (i ∈ (vcL xs s).drop k)))
  case atStart => exact ⟨rfl, 0, Nat.zero_le _, rfl, by omega, rfl⟩
  case round =>
    obtain ⟨rfl, k, hk, rfl, hg, H⟩ := hrel
    cases gk with
    | zero => omega
    | succ g =>
    by_cases hlt : k < (vcL xs s).length
    · obtain ⟨b, off, y, rfl, hb, HY, hc, hm⟩ := hI1.at_ hlt
      by_cases q : y = i
      · subst q
        obtain ⟨va, vf, v0, vn, v4, val⟩ := vcL_mem hm
        obtain ⟨_, h2, h10, hx, _⟩ := avB_parts va
        have hsz := fvB_size vf
        have hB : vcB xs s y = true := by unfold vcB; rw [decide_eq_true hm]
        have HB := Lib.hid hB
        have HX := Lib.hid hx
        have HS := Lib.hid hsz
        obtain ⟨j, rfl⟩ := Int.eq_ofNat_of_zero_le v0
        rw [Int.toNat_natCast] at vn
        have d1 : (((j : Int)) == ((j : Int))) = true := by simp
        clear va vf v0 val hm hB hx hsz
        go_wp2_with fail
        refine (newRing_any w1 A cap xs s hI (by omega) (by omega) (by have := HS.out; omega) (by have := HS.out; omega)).mono ?_
        rintro e w2 ⟨rfl, R, hb2⟩
        have hsz2 := hb2.size
        go_wp2_with fail
        refine (crimp_any w2 w1.heap.size w1.heap.size xs.length _ (angleAt xs) (byteAt s) j R vn v4 (by omega) (fun k hk => by have := HX.out _ (angleAt_mem hk); omega) (Nat.le_refl _) (fun k _ => by show w1.heap.size ≤ w1.heap.size + 1 + k; omega)).mono ?_
        rintro e w3 ⟨rfl, R3, hb3⟩
        have hb3' := hb2.trans hb3
        have hsz3 := hb3'.size
        go_wp2_with fail
        refine (list_any w3 w1.heap.size (xs.length - 2) _ _ _ R3 (by omega) (by omega) (fun k => byteAt_lt s _)).mono ?_
        rintro e w4 ⟨v4', rfl, hown4, hb4⟩
        have hb4' := below_from hb1 (below_from hb3' hb4 hsz3) hb1.size
        have hw1 := hb1.size
        go_wp2_with fail
        go_ret3
        refine ⟨v4', ?_, ?_, hb4'⟩
        · unfold vcS
          rw [if_pos HB.out, HB.out]
          rfl
        · unfold vcY
          rw [if_pos HB.out]
          exact own_lower hown4 (by omega)
      · have d1 : (y == i) = false := by rw [beq_eq_false_iff_ne]; exact q
        have HN := Lib.hid (mem_drop_step HY.out q)
        clear q hm
        go_wp2_with fail
        go_roundg g
        case measure => omega
        case rel => exact ⟨rfl, k + 1, by omega, by go_num, by omega, H.out.trans HN.out⟩
    · obtain rfl : k = (vcL xs s).length := by omega
      have hB : vcB xs s i = false := by
        unfold vcB
        rw [decide_eq_false]
        rw [H.out, List.drop_length]
        simp
      have HB := Lib.hid hB
      clear hB
      have hw1 := hb1.size
      go_wp2_with fail
      go_ret3
      refine ⟨.slice (some ⟨w1.heap.size, 0, none⟩) 0 0, ?_, ?_, hb1.alloc hw1 _⟩
      · unfold vcS
        rw [HB.out]
        rfl
      · unfold vcY
        rw [HB.out]
        exact own_empty w1 hw1
end Go.Proofs.YtkdlipbegdiaaaaGreatDoor
namespace Go.Proofs.YtkdlipbegdiaaaaGreatDoor
open Go.RowKit
theorem angles_ext {xs ys : List Int} (h : xs.length = ys.length) (ha : ∀ k, k < xs.length → angleAt xs k = angleAt ys k) : xs = ys := by
  apply List.ext_getElem h
  intro k h1 h2
  have := ha k h1
  unfold angleAt at this
  simpa [List.getD_eq_getElem?_getD, h1, h2] using this
theorem bytes_ext {s t : ByteArray} (h : s.size = t.size) (ha : ∀ k, k < s.size → byteAt s k = byteAt t k) : s = t := by
  apply ByteArray.ext
  apply Array.ext'
  apply List.ext_getElem
  · simpa using h
  · intro k h1 h2
    have := ha k (by simpa using h1)
    unfold byteAt at this
    rw [List.getD_eq_getElem?_getD, List.getD_eq_getElem?_getD, List.getElem?_eq_getElem h1, List.getElem?_eq_getElem h2] at this
    exact UInt8.toNat_inj.1 this
theorem crimped_eq {xs : List Int} {s : ByteArray} {i : Nat} {xs' : List Int} {s' : ByteArray} (h : Crimped xs s i xs' s') : xs' = vcrX xs i ∧ s' = vcrF xs s i := by
  refine ⟨angles_ext ?_ fun k hk => ?_, bytes_ext ?_ fun k hk => ?_⟩
  · rw [h.len]; unfold vcrX; rw [angTo_len]
  · rw [h.len] at hk
    rw [h.angle k hk]
    unfold vcrX
    rw [angleAt_angTo _ hk]
  · rw [h.size]; unfold vcrF; simp [ByteArray.size, folTo_len]
  · rw [h.size] at hk
    rw [h.fold k hk]
    unfold vcrF
    exact (byteAt_folTo (fun k => byteAt s (sig xs.length i k)) hk (byteAt_lt _ _)).symm
set_option maxHeartbeats 800000 in
theorem spec_VertexCrimps (A : Option Addr) (cap : Nat) (xs : List Int) (s : ByteArray) (w : World) (h : Ints w A xs) (hl : xs.length ≤ maxLen) (hs : s.size ≤ maxLen) :
    Calls Tryz.prog 115 #[.slice A xs.length cap, .string s] w fun e w' => ∃ v, e = .returned v ∧ Own w' w.heap.size v (vcL xs s) ∧ Below w.heap.size w w' := by
  cases hv : avB xs with
  | false =>
    have HV := Lib.hid hv; clear hv
    go_enter Tryz.func115, Tryz.ntmps115
    go_wp2_with fail
    refine (spec_AnglesValid A cap xs w h hl).mono ?_
    rintro e w' ⟨rfl, rfl⟩
    rw [HV.out]
    go_wp2_with fail
    go_ret
    exact ⟨_, rfl, by unfold vcL; rw [HV.out]; exact own_empty w (Nat.le_refl _), (Below.refl _ _).alloc (Nat.le_refl _) _⟩
  | true =>
    obtain ⟨_, h2, h10, hx, _⟩ := avB_parts hv
    have HV := Lib.hid hv; clear hv
    clear hx
    cases hf : fvB s.data.toList xs.length with
    | false =>
      have HF := Lib.hid hf; clear hf
      go_enter Tryz.func115, Tryz.ntmps115
      go_wp2_with fail
      refine (spec_AnglesValid A cap xs w h hl).mono ?_
      rintro e w' ⟨rfl, rfl⟩
      rw [HV.out]
      go_wp2_with fail
      refine (spec_FoldsValid s xs.length w hs).mono ?_
      rintro e w' ⟨rfl, rfl⟩
      rw [HF.out]
      go_wp2_with fail
      go_ret
      exact ⟨_, rfl, by unfold vcL; rw [HV.out, HF.out]; exact own_empty w (Nat.le_refl _), (Below.refl _ _).alloc (Nat.le_refl _) _⟩
    | true =>
      have hsz := fvB_size hf
      have HF := Lib.hid hf; clear hf
      have HS := Lib.hid hsz; clear hsz
      go_enter Tryz.func115, Tryz.ntmps115
      go_wp2_with fail
      refine (spec_AnglesValid A cap xs w h hl).mono ?_
      rintro e w' ⟨rfl, rfl⟩
      rw [HV.out]
      go_wp2_with fail
      refine (spec_FoldsValid s xs.length w hs).mono ?_
      rintro e w' ⟨rfl, rfl⟩
      rw [HF.out]
      go_wp2_with fail
      refine (spec_l1Crimps A cap xs s w h (by omega) HS.out).mono ?_
      rintro e w2 ⟨v, rfl, hown, hb2⟩
      go_wp2_with fail
      go_ret
      refine ⟨_, rfl, ?_, hb2⟩
      unfold vcL
      rw [HV.out, HF.out]
      exact hown
set_option maxHeartbeats 2000000 in
theorem spec_VertexCrimp (A : Option Addr) (cap : Nat) (xs : List Int) (s : ByteArray) (i : Int) (w : World) (h : Ints w A xs) (hl : xs.length ≤ maxLen) (hs : s.size ≤ maxLen) (hcap : xs.length ≤ cap) (hcm : cap ≤ maxLen) :
    Calls Tryz.prog 87 #[.slice A xs.length cap, .string s, .int .i64 i] w fun e w' => ∃ v, e = .returned (.tuple #[v, .string (vcS xs s i), .bool (vcB xs s i)]) ∧ Own w' w.heap.size v (vcY xs s i) ∧ Below w.heap.size w w' := by
  go_enter Tryz.func87, Tryz.ntmps87
  go_wp2_with fail
  refine (spec_VertexCrimps A cap xs s w h hl hs).mono ?_
  rintro e w1 ⟨v, rfl, hown, hb1⟩
  obtain ⟨A1, c1, rfl, hI1, hc1, hm1⟩ := hown.form
  have hlL : (vcL xs s).length ≤ maxLen := Nat.le_trans hc1 hm1
  unfold maxLen at hlL
  have hI := h.below hb1
  clear hown
  go_wp2_with fail
  go_loopg [10] ((vcL xs s).length + 1) (fun g s10 wr => w1 = wr ∧ ∃ k, k ≤ (vcL xs s).length ∧ s10 = .int .i64 k ∧ (vcL xs s).length - k < g ∧ Hid ((i ∈ vcL xs s) = (i ∈ (vcL xs s).drop k)))
  case atStart => exact ⟨rfl, 0, Nat.zero_le _, rfl, by omega, rfl⟩
  case round =>
    obtain ⟨rfl, k, hk, rfl, hg, H⟩ := hrel
    cases gk with
    | zero => omega
    | succ g =>
    by_cases hlt : k < (vcL xs s).length
    · obtain ⟨b, off, y, rfl, hb, HY, hc, hm⟩ := hI1.at_ hlt
      by_cases q : y = i
      · subst q
        obtain ⟨va, vf, v0, vn, v4, val⟩ := vcL_mem hm
        obtain ⟨_, h2, h10, hx, _⟩ := avB_parts va
        have hsz := fvB_size vf
        have hB : vcB xs s y = true := by unfold vcB; rw [decide_eq_true hm]
        have HB := Lib.hid hB
        have HX := Lib.hid hx
        have HS := Lib.hid hsz
        obtain ⟨j, rfl⟩ := Int.eq_ofNat_of_zero_le v0
        rw [Int.toNat_natCast] at vn
        have d1 : (((j : Int)) == ((j : Int))) = true := by simp
        obtain ⟨bb, off', _, rfl, _, _, _, _⟩ := hI.at_ (k := 0) (by omega)
        clear va vf v0 val hm hB hx hsz
        go_wp2_with fail
        refine (spec_l1Crimp_n bb off' cap xs.length xs s j w1 hI (Lib.hid rfl) v4 (by omega) hcap hcm HS vn (Lib.hid fun k hk => by have := HX.out _ (angleAt_mem hk); omega)).mono ?_
        rintro e w2 ⟨v, xs', s', rfl, hown2, hcr, hb2⟩
        obtain ⟨rfl, rfl⟩ := crimped_eq hcr
        have hb2' := below_from hb1 hb2 hb1.size
        have hw1 := hb1.size
        clear hcr
        go_wp2_with fail
        go_ret3
        refine ⟨v, ?_, ?_, hb2'⟩
        · unfold vcS
          rw [if_pos HB.out, HB.out]
          rfl
        · unfold vcY
          rw [if_pos HB.out]
          exact own_lower hown2 (by omega)
      · have d1 : (y == i) = false := by rw [beq_eq_false_iff_ne]; exact q
        have HN := Lib.hid (mem_drop_step HY.out q)
        clear q hm
        go_wp2_with fail
        go_roundg g
        case measure => omega
        case rel => exact ⟨rfl, k + 1, by omega, by go_num, by omega, H.out.trans HN.out⟩
    · obtain rfl : k = (vcL xs s).length := by omega
      have hB : vcB xs s i = false := by
        unfold vcB
        rw [decide_eq_false]
        rw [H.out, List.drop_length]
        simp
      have HB := Lib.hid hB
      clear hB
      have hw1 := hb1.size
      go_wp2_with fail
      go_ret3
      refine ⟨.slice (some ⟨w1.heap.size, 0, none⟩) 0 0, ?_, ?_, hb1.alloc hw1 _⟩
      · unfold vcS
        rw [HB.out]
        rfl
      · unfold vcY
        rw [HB.out]
        exact own_empty w1 hw1
end Go.Proofs.YtkdlipbegdiaaaaGreatDoor
namespace Go.Proofs.YtkdlipbegdiaaaaGreatDoor
open Go.RowKit
theorem Tryz.infoStrE : (Tryz.prog.info? 9).map (fun i => (i.zero, i.size, i.bytes)) = some (some (.string ByteArray.empty), 1, 16) := by kernel_rfl
/-- the cells of a slice of texts, where there are any -/
def Strs (w : World) (A : Option Addr) (xs : List (List UInt8)) : Prop :=
  xs ≠ [] → ∃ b off, A = some ⟨b, off, none⟩ ∧ b < w.heap.size ∧ ∀ k x, xs[k]? = some x → w.cell? ⟨b, off + k, none⟩ = some (encStr x)
theorem Strs.at_ {w : World} {A : Option Addr} {xs : List (List UInt8)} {k : Nat} (h : Strs w A xs) (hk : k < xs.length) :
    ∃ b off x, A = some ⟨b, off, none⟩ ∧ b < w.heap.size ∧ Hid (xs.drop k = x :: xs.drop (k + 1)) ∧ w.cell? ⟨b, off + k, none⟩ = some (encStr x) ∧ x ∈ xs := by
  obtain ⟨b, off, e, hb, hc⟩ := h (by intro e; subst e; simp at hk)
  exact ⟨b, off, xs[k], e, hb, List.drop_eq_getElem_cons hk, hc k _ (List.getElem?_eq_getElem hk), List.getElem_mem hk⟩
theorem Strs.nil (w : World) (A : Option Addr) : Strs w A [] := fun h => absurd rfl h
theorem Strs.keep {w w' : World} {A : Option Addr} {xs : List (List UInt8)} (h : Strs w A xs) (hs : w.heap.size ≤ w'.heap.size) (hk : ∀ p : Addr, p.block < w.heap.size → w'.cell? p = w.cell? p) : Strs w' A xs := by
  intro hn
  obtain ⟨b, off, e, hb, hc⟩ := h hn
  exact ⟨b, off, e, Nat.lt_of_lt_of_le hb hs, fun k x hx => (hk ⟨b, off + k, none⟩ hb).trans (hc k x hx)⟩
theorem Strs.below {w w' : World} {A : Option Addr} {xs : List (List UInt8)} (h : Strs w A xs) (hb : Below w.heap.size w w') : Strs w' A xs :=
  h.keep hb.size fun _ hp => hb.cell hp
theorem Strs.drew {w : World} {A : Option Addr} {xs : List (List UInt8)} (h : Strs w A xs) : Strs w.drew A xs := h
theorem Strs.alloc {w : World} {A : Option Addr} {xs : List (List UInt8)} (h : Strs w A xs) (o : Obj) : Strs (w.alloc o) A xs :=
  h.below ((Below.refl _ _).alloc (Nat.le_refl _) o)
theorem Strs.of_own {w : World} {base : Nat} {e : TypeId} {A : Option Addr} {n c : Nat} {xs : List (List UInt8)} (h : w.ownsRow base e 1 (.slice A n c) n (xs.map (encStr))) : Strs w A xs := by
  intro hn
  have hlen := h.1
  rcases h.2 with ⟨_, h0⟩ | ⟨g, cap, cur, hv, hb, hg, hnc, _, _, htake⟩
  · exfalso; apply hn; apply List.eq_nil_of_length_eq_zero; simpa [h0] using hlen
  · injection hv with hA
    subst hA
    refine ⟨g, 0, rfl, (Array.getElem?_eq_some_iff.1 hg).1, fun k x hx => ?_⟩
    have := h.cells (g := g) rfl k (encStr x) (by rw [List.getElem?_map, hx]; rfl)
    rw [← this]
    congr 1
    unfold Addr.add
    split
    · next h0 => subst h0; simp
    · simp
/-- the integers xs, in a row that the call itself made, from block B on -/
abbrev OwnTx (w : World) (B : Nat) (v : Value) (xs : List (List UInt8)) : Prop := w.ownsRow B 9 1 v xs.length (xs.map (encStr))
theorem OwnTx.form {w : World} {B : Nat} {v : Value} {xs : List (List UInt8)} (h : OwnTx w B v xs) : ∃ A c, v = .slice A xs.length c ∧ Strs w A xs ∧ xs.length ≤ c ∧ c ≤ maxLen := by
  rcases h.2 with ⟨rfl, h0⟩ | ⟨g, cap, cur, rfl, hb, hg, hnc, hcm, _, _⟩
  · exact ⟨none, 0, by rw [h0], by rw [List.eq_nil_of_length_eq_zero h0]; exact Strs.nil _ _, by omega, by simp [maxLen]⟩
  · exact ⟨_, cap, rfl, Strs.of_own h, hnc, hcm⟩
/-- an empty row, just laid -/
theorem ownTx_empty (w : World) {B : Nat} (hB : B ≤ w.heap.size) : OwnTx (w.alloc (.cells #[] 9)) B (.slice (some ⟨w.heap.size, 0, none⟩) 0 0) [] :=
  World.ownsRow_lit w #[] 0 hB (by unfold maxLen; omega) rfl
theorem own_belowTx {w w' : World} {B : Nat} {v : Value} {xs : List (List UInt8)} (h : OwnTx w B v xs) (hb : Below w.heap.size w w') : OwnTx w' B v xs :=
  World.ownsRow.kept (row := none) h ⟨hb.os, hb.tape, hb.output, hb.size, fun i hi _ => hb.block i hi⟩ (by cases hv : v.ownBlock <;> simp)
theorem ownTx_addr {w : World} {B : Nat} {A : Option Addr} {c : Nat} {xs : List (List UInt8)} (h : OwnTx w B (.slice A xs.length c) xs) (h1 : 1 ≤ xs.length) : ∃ g, A = some ⟨g, 0, none⟩ := by
  rcases h.2 with ⟨_, h0⟩ | ⟨g, cap, cur, e, _⟩
  · omega
  · cases e; exact ⟨g, rfl⟩
theorem wpList_pushTx {ops : Array Oper} {rest : List Oper} {o : Oper} {a : Act} {Q : Exit → Act → World → Prop} {W : World} (hgd : o.guard = none) (s x : Operand)
    (ho : o.op = .call { callee := .builtin .append, args := #[s, x], argTypes := #[46, 46] })
    (B : Nat) (v : Value) (xs : List (List UInt8)) (z : List UInt8) (hs : a.eval s = v) (hx : a.eval x = .slice (some ⟨W.heap.size, 0, none⟩) 1 1) (hown : OwnTx W B v xs) (hB : B ≤ W.heap.size) (hn : xs.length ≤ 1000000000000)
    (h : ∀ v' w', OwnTx w' B v' (xs ++ [z]) → W.grownBy w' v.ownBlock → Below B W w' → wpList Tryz.prog ops Q rest (a.put o.dst v') w') :
    wpList Tryz.prog ops Q (o :: rest) a (W.alloc (.cells #[encStr z] 9)) := by
  obtain ⟨i0, hi, hz0, hz1, hz2⟩ := info_parts Tryz.infoStrE
  refine wpList_append_own _ hgd s x 46 ho B 9 i0 (.string ByteArray.empty) 1 16 Tryz.underlying46 hi hz0 hz1 hz2 rfl (by decide) v _ _ hs (hown.alloc _) ⟨W.heap.size, 0, none⟩ 1 1 [encStr z] hx rfl ?_ ?_ ?_ ?_ ?_ ?_
  · intro j u hj
    match j, hj with
    | 0, hj => simp at hj; subst hj; simp [Addr.add]
  · intro u hu; simp at hu; subst hu; rfl
  · unfold maxLen; omega
  · omega
  · simp; omega
  · intro v' w' ho' hg _
    have hg' : W.grownBy w' v.ownBlock := ⟨hg.os, hg.tape, hg.output, Nat.le_trans (by simp) hg.size, fun k hk hne => (hg.block k (by simp; omega) hne).trans (Below.heap_alloc W _ k hk)⟩
    refine h v' w' (by simpa [OwnTx] using ho') hg' ((Below.refl _ _).grown hg' hB fun k hk => (hown.lt k hk).1)
end Go.Proofs.YtkdlipbegdiaaaaGreatDoor
namespace Go.Proofs.YtkdlipbegdiaaaaGreatDoor
/-- the word of angles and folds -/
def wl : List Int → List UInt8 → List Ltr
  | x :: xs, c :: cs => .F c.toNat :: .X x :: wl xs cs
  | _, _ => []
theorem size_list (s : ByteArray) : s.data.toList.length = s.size := Array.length_toList
end Go.Proofs.YtkdlipbegdiaaaaGreatDoor
namespace Go.Proofs.YtkdlipbegdiaaaaGreatDoor
theorem sum_app (u v : List Int) : (u ++ v).sum = u.sum + v.sum := by
  induction u with
  | nil => simp
  | cons x r ih => rw [List.cons_append, List.sum_cons, ih, List.sum_cons]; omega
theorem fvB_iff (cs : List UInt8) (n : Int) : fvB cs n = true ↔ (cs.length : Int) = n ∧ ∀ c ∈ cs, mvB c = true := by
  unfold fvB
  simp only [Bool.and_eq_true, decide_eq_true_eq, List.all_eq_true]
/-- a text out of its bytes -/
abbrev bts (cs : List UInt8) : ByteArray := ⟨cs.toArray⟩
theorem bts_list (cs : List UInt8) : (bts cs).data.toList = cs := rfl
/-- a letter exchanged -/
def swB (c : UInt8) : UInt8 := if c = 77 then 86 else if c = 86 then 77 else c
/-- a text with all letters exchanged -/
def swT (s : ByteArray) : ByteArray := bts (s.data.toList.map swB)
/-- the angles of a word -/
def xsOf : List Ltr → List Int
  | [] => []
  | .F _ :: r => xsOf r
  | .X x :: r => x :: xsOf r
theorem xsOf_app (u v : List Ltr) : xsOf (u ++ v) = xsOf u ++ xsOf v := by
  induction u with
  | nil => rfl
  | cons y r ih => cases y <;> simp [xsOf, ih]
theorem Rot.sum {l m : List Ltr} (h : Rot l m) : (xsOf l).sum = (xsOf m).sum := by
  obtain ⟨u, v, rfl, rfl⟩ := h
  rw [xsOf_app, xsOf_app, sum_app, sum_app]; omega
theorem Step.sums {l m : List Ltr} (h : Step l m) : ∃ b, Ltr.X b ∈ l ∧ (∀ x, Ltr.X x ∈ l → b ≤ x) ∧ (∀ x, Ltr.X x ∈ m → b ≤ x) ∧ (xsOf l).sum = (xsOf m).sum + 2 * b := by
  obtain ⟨a, g, b, hh, c, rest, r1, r2, hne, hmin, hlen⟩ := h
  refine ⟨b, (r1.mem _).2 (by simp), hmin, ?_, ?_⟩
  · intro x hx
    have := (r2.mem _).2 hx
    simp at this
    rcases this with e | e
    · have h1 := hmin a ((r1.mem _).2 (by simp))
      have h2 := hmin c ((r1.mem _).2 (by simp))
      omega
    · exact hmin x ((r1.mem _).2 (by simp [e]))
  · rw [r1.sum, ← r2.sum]
    simp only [xsOf, List.sum_cons]
    omega
end Go.Proofs.YtkdlipbegdiaaaaGreatDoor
