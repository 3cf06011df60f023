/- The program's 'newCreaseRing': the ring of linked creases for angles and folds. No condition. The program's 'foldsDown': crimps at the least index again and again. No condition. The program's tests of folds, lengths and rings, and whether a vertex or a ring folds. No condition but sizes. The reference's tests of angles, folds and lengths. No condition but sizes. -/
import Derived.Test.YtkdlipbegdiaaaaGreatDoorEzAP3
import Derived.Test.YtkdlipbegdiaaaaGreatDoorEzAP2
namespace Go.Proofs.YtkdlipbegdiaaaaGreatDoor
open Go.RowKit
theorem Ring.push {w : World} {p k : Nat} {b : Nat → Nat} {x : Nat → Int} {f : Nat → Nat} (h : Ring w p k b x f) (hk : 1 ≤ k) (hb : b k = w.heap.size) :
    Ring ((((w.alloc (.cells #[.int .i64 (x k), .int .u8 (f k), ptr (b (k - 1)), ptr (b 0)] 183)).setCell ⟨b (k - 1), 3, none⟩ (ptr (b k))).setCell ⟨b 0, 2, none⟩ (ptr (b k))).setCell ⟨p, 1, none⟩ (.int .i64 ((k + 1 : Nat) : Int))) p (k + 1) b x f := by
  have lt : ∀ j, j < k → b j < w.heap.size := fun j hj => (h.node j hj).lt
  have np : ∀ j, j < k → p ≠ b j := fun k hk => Blk.ne_ h.head (h.node k hk) (by decide)
  have npk : p ≠ b k := fun e => by have := h.head.lt; omega
  refine ⟨?_, fun j hj => ?_, fun i j hi hj e => ?_⟩
  · exact (((h.head.alloc _).far (p := ⟨b (k - 1), 3, none⟩) (np _ (by omega)) _).far (p := ⟨b 0, 2, none⟩) (np _ (by omega)) _).set_ 1 _
  · by_cases hjk : j = k
    · subst hjk
      have h0 : Blk (w.alloc (.cells #[.int .i64 (x j), .int .u8 (f j), ptr (b (j - 1)), ptr (b 0)] 183)) (b j) 183 #[.int .i64 (x j), .int .u8 (f j), ptr (b (j - 1)), ptr (b 0)] := by rw [hb]; exact Blk.new w _ _
      have e1 := lt (j - 1) (by omega)
      have e2 := lt 0 (by omega)
      have h1 := ((h0.far (p := ⟨b (j - 1), 3, none⟩) (by show b j ≠ b (j - 1); omega) (ptr (b j))).far (p := ⟨b 0, 2, none⟩) (by show b j ≠ b 0; omega) (ptr (b j))).far (p := ⟨p, 1, none⟩) (fun e => npk e.symm) (.int .i64 ((j + 1 : Nat) : Int))
      unfold nodeCells
      rw [show prv (j + 1) j = j - 1 by unfold prv; split <;> omega, show nxt (j + 1) j = 0 by unfold nxt; rw [if_pos rfl]]
      exact h1
    · have hj' : j < k := by omega
      have h0 := (h.node j hj').alloc (.cells #[.int .i64 (x k), .int .u8 (f k), ptr (b (k - 1)), ptr (b 0)] 183)
      have e1 : prv (k + 1) j = if j = 0 then k else prv k j := by unfold prv; split <;> simp
      have e2 : nxt (k + 1) j = if j = k - 1 then k else nxt k j := by unfold nxt; repeat' split
                                                                       all_goals omega
      unfold nodeCells
      rw [e1, e2]
      unfold nodeCells at h0
      refine Blk.far (p := ⟨p, 1, none⟩) ?_ (fun e => np j hj' e.symm) _
      by_cases z1 : j = k - 1
      · rw [if_pos z1]
        rw [← z1]
        have h1 := h0.set_ 3 (ptr (b k))
        rw [z1] at h1
        rw [← z1] at h1
        by_cases z2 : j = 0
        · rw [if_pos z2]
          have h2 := h1.set_ 2 (ptr (b k))
          subst z2
          exact h2
        · rw [if_neg z2]
          exact h1.far (p := ⟨b 0, 2, none⟩) (fun e => z2 (h.inj _ _ hj' (by omega) e)) _
      · rw [if_neg z1]
        have h1 := h0.far (p := ⟨b (k - 1), 3, none⟩) (fun e => z1 (h.inj _ _ hj' (by omega) e)) (ptr (b k))
        by_cases z2 : j = 0
        · rw [if_pos z2]
          have h2 := h1.set_ 2 (ptr (b k))
          subst z2
          exact h2
        · rw [if_neg z2]
          exact h1.far (p := ⟨b 0, 2, none⟩) (fun e => z2 (h.inj _ _ hj' (by omega) e)) _
  · by_cases hik : i = k
    · by_cases hjk : j = k
      · omega
      · have := lt j (by omega); rw [hik] at e; omega
    · by_cases hjk : j = k
      · have := lt i (by omega); rw [hjk] at e; omega
      · exact h.inj i j (by omega) (by omega) e
theorem Ring.one {w : World} {p : Nat} {b : Nat → Nat} {x : Nat → Int} {f : Nat → Nat} (hb : b 0 = w.heap.size) (h : Blk w p 181 #[.pointer none, .int .i64 0]) :
    Ring (((w.alloc (.cells #[.int .i64 (x 0), .int .u8 (f 0), ptr (b 0), ptr (b 0)] 183)).setCell ⟨p, 0, none⟩ (ptr (b 0))).setCell ⟨p, 1, none⟩ (.int .i64 1)) p 1 b x f := by
  have npk : b 0 ≠ p := fun e => by have := h.lt; omega
  refine ⟨((h.alloc _).set_ 0 _).set_ 1 _, fun j hj => ?_, fun i j hi hj _ => by omega⟩
  obtain rfl : j = 0 := by omega
  have h0 : Blk (w.alloc (.cells #[.int .i64 (x 0), .int .u8 (f 0), ptr (b 0), ptr (b 0)] 183)) (b 0) 183 #[.int .i64 (x 0), .int .u8 (f 0), ptr (b 0), ptr (b 0)] := by
    rw [hb]; exact Blk.new w _ _
  exact (h0.far (p := ⟨p, 0, none⟩) npk _).far (p := ⟨p, 1, none⟩) npk _
theorem Ring.cast {w : World} {p n m : Nat} {b : Nat → Nat} {x : Nat → Int} {f : Nat → Nat} (h : Ring w p n b x f) (e : n = m) : Ring w p m b x f := e ▸ h
/-- the byte k of a text -/
def byteAt (s : ByteArray) (k : Nat) : Nat := (s.data.toList.getD k 0).toNat
theorem byteAt_eq (s : ByteArray) (k : Nat) (h : k < s.size) : byteAt s k = s[k].toNat := by
  unfold byteAt
  have : k < s.data.toList.length := by simpa using h
  rw [List.getD_eq_getElem?_getD, List.getElem?_eq_getElem this]
  rfl
theorem byteAt_lt (s : ByteArray) (k : Nat) : byteAt s k < 256 := UInt8.toNat_lt _
def angleAt (xs : List Int) (k : Nat) : Int := xs.getD k 0
theorem angle_of {xs r : List Int} {k : Nat} {y : Int} (h : xs.drop k = y :: r) : angleAt xs k = y := by
  unfold angleAt
  have : (xs.drop k)[0]? = some y := by rw [h]; rfl
  rw [List.getElem?_drop] at this
  rw [List.getD_eq_getElem?_getD]
  simp only [Nat.add_zero] at this
  rw [this]; rfl
set_option maxHeartbeats 2000000 in
set_option maxRecDepth 100000 in
theorem newRing_any (w : World) (A : Option Addr) (cap : Nat) (xs : List Int) (s : ByteArray) (h : Ints w A xs) (hn0 : 0 < xs.length) (hn : xs.length ≤ 100) (hs : xs.length ≤ s.size) (hs2 : s.size ≤ 1000000) :
    Calls Tryz.prog 153 #[.slice A xs.length cap, .string s] w fun e w' => e = .returned (ptr w.heap.size) ∧ Ring w' w.heap.size xs.length (fun k => w.heap.size + 1 + k) (angleAt xs) (byteAt s) ∧ Below w.heap.size w w' := by
  obtain ⟨b, hbk⟩ : ∃ b : Nat → Nat, ∀ k, b k = w.heap.size + 1 + k := ⟨fun k => w.heap.size + 1 + k, fun _ => rfl⟩
  have eb0 : (fun k => w.heap.size + 1 + k) = b := funext fun k => (hbk k).symm
  rw [eb0]
  clear eb0
  have BK := Lib.hid hbk
  clear hbk
  go_enter Tryz.func153, Tryz.ntmps153
  go_wp2
  go_loopg [14] (xs.length + 1) (fun g s14 wr => ∃ k, k ≤ xs.length ∧ s14 = .int .i64 k ∧ xs.length - k < g ∧ Below w.heap.size w wr ∧ wr.heap.size = w.heap.size + 1 + k ∧
      (k = 0 → Blk wr w.heap.size 181 #[.pointer none, .int .i64 0]) ∧ (1 ≤ k → Ring wr w.heap.size k b (angleAt xs) (byteAt s)))
  case atStart => exact ⟨0, by omega, rfl, by omega, (Below.refl _ _).alloc (Nat.le_refl _) _, by simp, fun _ => Blk.new w _ _, fun h => by omega⟩
  case round =>
    obtain ⟨k, hk, rfl, hg, hbel, hz, h0, h1⟩ := hrel
    have HZ := Lib.hid hz; clear hz
    cases gk with
    | zero => omega
    | succ g =>
    have hI := h.below hbel
    by_cases hlt : k < xs.length
    · obtain ⟨bb, off, y, rfl, hbb, HY, hc, hm⟩ := hI.at_ hlt
      have eb : byteAt s k = s[k].toNat := byteAt_eq s k (by omega)
      have HB := Lib.hid eb; clear eb
      by_cases z : k = 0
      · have R := h0 z
        clear h0 h1
        have F0 : ∀ o, (wr.alloc o).cell? ⟨w.heap.size, 0, none⟩ = some (.pointer none) := fun o => by rw [(R.alloc o).cell]; rfl
        have F1 : ∀ o u, ((wr.alloc o).setCell ⟨w.heap.size, 0, none⟩ u).cell? ⟨w.heap.size, 1, none⟩ = some (.int .i64 0) := fun o u => by rw [((R.alloc o).set_ 0 u).cell]; rfl
        have G0 : ∀ o, (wr.alloc o).frozen? ⟨w.heap.size, 0, none⟩ = false := fun o => (R.alloc o).frozen 0
        have G1 : ∀ o, (wr.alloc o).frozen? ⟨w.heap.size, 1, none⟩ = false := fun o => (R.alloc o).frozen 1
        have eb0 : b 0 = wr.heap.size := (BK.out 0).trans (by rw [HZ.out, z])
        have O : Ring _ w.heap.size 1 b (angleAt xs) (byteAt s) := Ring.one eb0 R
        have HO := Lib.hid O
        have E0 := Lib.hid eb0
        have Z := Lib.hid z
        clear O eb0 z
        go_wp2
        have O2 := HO.out
        have ea := angle_of HY.out
        have z := Z.out
        have ebb : byteAt s 0 = s[k].toNat := by rw [← HB.out, z]
        rw [z] at ea
        rw [ea, ebb, E0.out] at O2
        have hsz := hbel.size
        go_roundg g
        case measure => omega
        case rel => exact ⟨k + 1, by omega, by go_num, by omega, ((hbel.alloc hsz _).setCell (p := ⟨w.heap.size, 0, none⟩) (Nat.le_refl _) _).setCell (p := ⟨w.heap.size, 1, none⟩) (Nat.le_refl _) _, by simp only [World.size_alloc, World.size_setCell]; have := HZ.out; omega, fun h => by omega, fun _ => O2.cast (by omega)⟩
      · have R := h1 (by omega)
        clear h0 h1
        have np : ∀ j, j < k → w.heap.size ≠ b j := fun j hj => Blk.ne_ R.head (R.node j hj) (by decide)
        have i0 : 0 < k := by omega
        have i1 : k - 1 < k := by omega
        have np0 := np _ i0
        have np1 := np _ i1
        have F0 : ∀ o, (wr.alloc o).cell? ⟨w.heap.size, 0, none⟩ = some (ptr (b 0)) := fun o => by rw [(R.head.alloc o).cell]; rfl
        have F1 : ∀ o, (wr.alloc o).cell? ⟨b 0, 2, none⟩ = some (ptr (b (k - 1))) := fun o => by rw [((R.node 0 i0).alloc o).cell]; rfl
        have F2 : ∀ o, (wr.alloc o).cell? ⟨b (k - 1), 3, none⟩ = some (ptr (b (nxt k (k - 1)))) := fun o => by rw [((R.node _ i1).alloc o).cell]; rfl
        have F3 : ∀ o u, ((wr.alloc o).setCell ⟨b (k - 1), 3, none⟩ u).cell? ⟨b 0, 2, none⟩ = some (ptr (b (k - 1))) := fun o u => by
          by_cases e : b 0 = b (k - 1)
          · have h2 := ((R.node 0 i0).alloc o).set_ 3 u
            have h3 : ((wr.alloc o).setCell ⟨b 0, 3, none⟩ u).cell? ⟨b 0, 2, none⟩ = some (ptr (b (k - 1))) := by rw [h2.cell]; rfl
            have e4 : (⟨b (k - 1), 3, none⟩ : Addr) = ⟨b 0, 3, none⟩ := by rw [e]
            rw [e4]
            exact h3
          · rw [(((R.node 0 i0).alloc o).far (p := ⟨b (k - 1), 3, none⟩) e u).cell]; rfl
        have F4 : ∀ o u v, (((wr.alloc o).setCell ⟨b (k - 1), 3, none⟩ u).setCell ⟨b 0, 2, none⟩ v).cell? ⟨w.heap.size, 1, none⟩ = some (.int .i64 k) := fun o u v => by
          rw [(((R.head.alloc o).far (p := ⟨b (k - 1), 3, none⟩) np1 u).far (p := ⟨b 0, 2, none⟩) np0 v).cell]; rfl
        have G0 : ∀ o, (wr.alloc o).frozen? ⟨b (k - 1), 3, none⟩ = false := fun o => ((R.node _ i1).alloc o).frozen 3
        have G1 : ∀ o, (wr.alloc o).frozen? ⟨b 0, 2, none⟩ = false := fun o => ((R.node _ i0).alloc o).frozen 2
        have G2 : ∀ o, (wr.alloc o).frozen? ⟨w.heap.size, 1, none⟩ = false := fun o => (R.head.alloc o).frozen 1
        have O := R.push (by omega) ((BK.out k).trans HZ.out.symm)
        have HO := Lib.hid O
        clear O np
        go_wp2
        have O2 := HO.out
        rw [angle_of HY.out, HB.out, (BK.out k).trans HZ.out.symm] at O2
        have e5 : ((k + 1 : Nat) : Int) = (k : Int) + 1 := by omega
        rw [e5] at O2
        have b0 := BK.out 0
        have b1 := BK.out (k - 1)
        have hsz := hbel.size
        go_roundg g
        case measure => omega
        case rel => exact ⟨k + 1, by omega, by go_num, by omega, (((hbel.alloc hsz _).setCell (p := ⟨b (k - 1), 3, none⟩) (by show _ ≤ b (k - 1); omega) _).setCell (p := ⟨b 0, 2, none⟩) (by show _ ≤ b 0; omega) _).setCell (p := ⟨w.heap.size, 1, none⟩) (Nat.le_refl _) _, by simp only [World.size_alloc, World.size_setCell]; have := HZ.out; omega, fun h => by omega, fun _ => O2⟩
    · obtain rfl : k = xs.length := by omega
      have R := h1 (by omega)
      clear h0 h1
      go_wp2
      go_ret
      exact ⟨rfl, R, hbel⟩
end Go.Proofs.YtkdlipbegdiaaaaGreatDoor
namespace Go.Proofs.YtkdlipbegdiaaaaGreatDoor
open Go.RowKit
theorem cast_beq (a b : Nat) : ((a : Int) == (b : Int)) = decide (a = b) := by
  rw [Bool.eq_iff_iff]; simp; omega
def firstC (n : Nat) (x : Nat → Int) (f : Nat → Nat) : Option Nat := ((List.range n).filter (allowedB n x f)).head?
def foldsN : Nat → Nat → (Nat → Int) → (Nat → Nat) → Bool
  | 0, _, _, _ => false
  | g + 1, n, x, f => match firstC n x f with
    | none => decide (n = 2) && (decide (x 0 = x 1) && decide (f 0 = f 1))
    | some i => foldsN g (n - 2) (crimpX n x i) (fun k => f (sig n i k))
theorem crimps_none {n : Nat} {x : Nat → Int} {f : Nat → Nat} (h : firstC n x f = none) : crimpsTo n x f n = [] := by
  unfold firstC at h
  rw [List.head?_eq_none_iff] at h
  simp [crimpsTo, h]
theorem crimps_some {n i : Nat} {x : Nat → Int} {f : Nat → Nat} (h : firstC n x f = some i) : (∃ r, crimpsTo n x f n = (i : Int) :: r) ∧ i < n ∧ 4 ≤ n := by
  unfold firstC at h
  obtain ⟨r, hr⟩ : ∃ r, (List.range n).filter (allowedB n x f) = i :: r := by
    cases hl : (List.range n).filter (allowedB n x f) with
    | nil => rw [hl] at h; cases h
    | cons a l => rw [hl] at h; injection h with h; subst h; exact ⟨l, rfl⟩
  have hm : i ∈ (List.range n).filter (allowedB n x f) := by rw [hr]; simp
  rw [List.mem_filter, List.mem_range] at hm
  refine ⟨⟨r.map Int.ofNat, by unfold crimpsTo; rw [hr]; rfl⟩, hm.1, ?_⟩
  have := hm.2
  unfold allowedB at this
  by_cases h4 : n < 4
  · rw [if_pos h4] at this; cases this
  · omega
theorem crimpX_bd {n i : Nat} {x : Nat → Int} {M : Int} (hn : 4 ≤ n) (hi : i < n) (h : ∀ k, k < n → -M ≤ x k ∧ x k ≤ M) (_h0 : 0 ≤ M) : ∀ k, k < n - 2 → -(3 * M) ≤ crimpX n x i k ∧ crimpX n x i k ≤ 3 * M := by
  intro k hk
  have h1 := h _ (prv_lt hi)
  have h2 := h _ (nxt_lt hi)
  have h3 := h _ hi
  have h4 := h _ (sig_lt hn hi hk).1
  unfold crimpX
  split <;> omega
set_option maxHeartbeats 2000000 in
set_option maxRecDepth 100000 in
theorem foldsDown_any (w : World) (B p n0 : Nat) (b0 : Nat → Nat) (x0 : Nat → Int) (f0 : Nat → Nat) (h : Ring w p n0 b0 x0 f0) (hn2 : 2 ≤ n0) (hn : n0 ≤ 10) (hf : ∀ k, f0 k < 256)
    (hx : ∀ k, k < n0 → -1000 ≤ x0 k ∧ x0 k ≤ 1000) (hB : B ≤ p) (hBb : ∀ k, k < n0 → B ≤ b0 k) (hBw : B ≤ w.heap.size) :
    Calls Tryz.prog 154 #[ptr p] w fun e w' => e = .returned (.bool (foldsN 10 n0 x0 f0)) ∧ Below B w w' := by
  go_enter Tryz.func154, Tryz.ntmps154
  go_wp2_with (fail)
  go_loopg [3] 10 (fun g s3 wr => ∃ n b x f M, 2 ≤ n ∧ n ≤ 10 ∧ n ≤ 2 * g ∧ Ring wr p n b x f ∧ (∀ k, f k < 256) ∧ Below B w wr ∧ (∀ k, k < n → B ≤ b k) ∧ (∀ k, k < n → -M ≤ x k ∧ x k ≤ M) ∧ 0 ≤ M ∧
    M * 3 ^ (n / 2) ≤ 243000 ∧ Hid (foldsN 10 n0 x0 f0 = foldsN g n x f))
  case atStart => exact ⟨n0, b0, x0, f0, 1000, hn2, hn, by omega, h, hf, Below.refl _ _, hBb, hx, by omega, by
    have : n0 / 2 ≤ 5 := by omega
    have h3 : (3 : Int) ^ (n0 / 2) ≤ 3 ^ 5 := by
      obtain h | h | h | h | h | h : n0 / 2 = 0 ∨ n0 / 2 = 1 ∨ n0 / 2 = 2 ∨ n0 / 2 = 3 ∨ n0 / 2 = 4 ∨ n0 / 2 = 5 := by omega
      all_goals rw [h]; decide
    omega, rfl⟩
  case round =>
    obtain ⟨n, b, x, f, M, hn2, hn10, hg, R, hf, hbel, hBb, hx, hM, hM2, H⟩ := hrel
    cases gk with
    | zero => omega
    | succ g =>
    go_wp2_with (fail)
    refine (crimps_any wr p n b x f R (by omega) (by omega) hf).mono ?_
    rintro e w1 ⟨v, rfl, hown, hb1⟩
    have R1 := R.below hb1
    cases hc : firstC n x f with
    | none =>
      have HC := Lib.hid hc
      rw [crimps_none hc] at hown
      clear hc
      obtain ⟨A, c, rfl, hI, _, _⟩ := hown.form
      have c1 := R1.many
      have c2 := R1.first
      have c3 := R1.next (k := 0) (by omega)
      by_cases z : n = 2
      · have e3 : nxt n 0 = 1 := by unfold nxt; rw [z]; rfl
        rw [e3] at c3
        have c4 := R1.angle (k := 0) (by omega)
        have c5 := R1.angle (k := 1) (by omega)
        have c6 := R1.fold (k := 0) (by omega)
        have c7 := R1.fold (k := 1) (by omega)
        have hz : ((n : Int) != 2) = false := by simp; omega
        have Z := Lib.hid z
        clear z e3
        by_cases hq : x 0 = x 1
        · have hqd : (x 0 == x 1) = true := by simp [hq]
          have Q := Lib.hid hq
          clear hq
          go_wp2
          go_quiet (fail)
          go_wp2
          go_quiet (fail)
          go_wp2
          go_ret
          exact ⟨ret_bool (by rw [H.out, foldsN, HC.out]; simp [Z.out, Q.out, cast_beq]), below_drewN (below_drewN (below_from hbel hb1 (Nat.le_trans hBw hbel.size)) _) _⟩
        · have hqd : (x 0 == x 1) = false := by simp [hq]
          have Q := Lib.hid hq
          clear hq
          go_wp2
          go_quiet (fail)
          go_wp2
          go_quiet (fail)
          go_wp2
          go_ret
          exact ⟨ret_bool (by rw [H.out, foldsN, HC.out]; simp [Q.out]), below_drewN (below_drewN (below_from hbel hb1 (Nat.le_trans hBw hbel.size)) _) _⟩
      · have hz : ((n : Int) != 2) = true := by rw [bne_iff_ne]; omega
        have Z := Lib.hid z
        clear z
        go_wp2
        go_ret
        exact ⟨ret_bool (by rw [H.out, foldsN, HC.out]; simp [Z.out]), below_from hbel hb1 (Nat.le_trans hBw hbel.size)⟩
    | some i =>
      obtain ⟨⟨r, hr⟩, hin, h4⟩ := crimps_some hc
      have HC := Lib.hid hc
      rw [hr] at hown
      clear hc hr
      obtain ⟨A, c, rfl, hI, hcap, _⟩ := hown.form
      obtain ⟨bb, off, y, rfl, hbb, HY, hcell, _⟩ := hI.at_ (k := 0) (by simp)
      have hy : y = (i : Int) := by have := HY.out; simp at this; exact this.symm
      subst hy
      rw [Nat.add_zero] at hcell
      rw [List.length_cons] at *
      clear hI hown HY
      have hM0 : M * 3 ^ (n / 2) ≤ 243000 := hM2
      have hpow : (3 : Int) ^ (n / 2) = 3 * 3 ^ ((n - 2) / 2) := by
        have : n / 2 = (n - 2) / 2 + 1 := by omega
        rw [this, Int.pow_succ]; omega
      have hpos : (1 : Int) ≤ 3 ^ (n / 2) := by
        obtain h | h | h | h | h | h : n / 2 = 0 ∨ n / 2 = 1 ∨ n / 2 = 2 ∨ n / 2 = 3 ∨ n / 2 = 4 ∨ n / 2 = 5 := by omega
        all_goals rw [h]; decide
      have hMle : M ≤ 243000 := Int.le_trans (by simpa using Int.mul_le_mul_of_nonneg_left hpos hM) hM2
      have hpM : 3 * M * 3 ^ ((n - 2) / 2) ≤ 243000 := by rw [hpow] at hM2; rw [Int.mul_comm 3 M, Int.mul_assoc]; exact hM2
      have HP := Lib.hid hpM
      clear hM2 hM0 hpow hpos hpM
      go_wp2_with (fail)
      refine (crimp_any w1 B p n b x f i R1 hin h4 (by omega) (fun k hk => by have := hx k hk; omega) hB hBb).mono ?_
      rintro e w2 ⟨rfl, R2, hb2⟩
      go_wp2_with (fail)
      go_roundg g
      case measure => omega
      case rel => exact ⟨n - 2, _, _, _, 3 * M, by omega, by omega, by omega, R2, fun k => hf _, ((below_from hbel hb1 (Nat.le_trans hBw hbel.size))).trans hb2, fun k hk => hBb _ (sig_lt h4 hin hk).1, crimpX_bd h4 hin hx hM, by omega, HP.out, H.out.trans (by rw [foldsN, HC.out])⟩
end Go.Proofs.YtkdlipbegdiaaaaGreatDoor
namespace Go.Proofs.YtkdlipbegdiaaaaGreatDoor
open Go.RowKit
/-- the byte k of a text, and what is left behind it -/
theorem byte_drop {s : ByteArray} {k : Nat} (h : k < s.size) : s.data.toList.drop k = s[k] :: s.data.toList.drop (k + 1) := by
  have hl : k < s.data.toList.length := by simpa using h
  rw [List.drop_eq_getElem_cons hl]; rfl
def allMV : List UInt8 → Bool
  | [] => true
  | c :: r => if mvB c then allMV r else false
theorem allMV_eq (l : List UInt8) : l.all mvB = allMV l := by
  induction l with
  | nil => rfl
  | cons c r ih => simp only [List.all_cons, allMV, ih]; cases mvB c <;> rfl
set_option maxHeartbeats 400000 in
theorem impl_FoldsValid (s : ByteArray) (n : Int) (w : World) (hs : s.size ≤ maxLen) :
    Calls Tryz.prog 39 #[.string s, .int .i64 n] w fun e w' => e = .returned (.bool (fvB s.data.toList n)) ∧ w = w' := by
  unfold maxLen at hs
  by_cases g1 : n < 0
  · have d1 : decide (n < 0) = true := by simp; omega
    go_enter Tryz.func39, Tryz.ntmps39
    go_wp2
    go_ret
    exact ⟨ret_bool (by unfold fvB; simp; intro h; omega), rfl⟩
  · have d1 : decide (n < 0) = false := by simp; omega
    by_cases g2 : (s.size : Int) = n
    · subst g2
      clear d1 g1
      have d0 : decide ((s.size : Int) < 0) = false := by simp
      go_enter Tryz.func39, Tryz.ntmps39
      go_wp2
      go_loop [5] (fun i => ∃ k : Nat, k ≤ s.size ∧ i = .int .i64 k ∧ Hid (allMV s.data.toList = allMV (s.data.toList.drop k))) (fun i => s.size - (intOf i).toNat)
      case atStart => exact ⟨0, Nat.zero_le _, rfl, rfl⟩
      case round =>
        obtain ⟨k, hk, rfl, H⟩ := hrel
        by_cases hlt : k < s.size
        · have HX := Lib.hid (byte_drop hlt)
          by_cases m1 : s[k].toNat = 77
          · have e1 : ((s[k].toNat : Int) != 77) = false := by rw [bne_eq_false_iff_eq]; omega
            have M := Lib.hid m1; clear m1
            go_wp2
            go_round
            case rel => exact ⟨k + 1, by omega, by go_num, H.out.trans (by rw [HX.out, allMV, if_pos (by unfold mvB; simp [M.out])])⟩
            case measure => simp [intOf]; omega
          · have e1 : ((s[k].toNat : Int) != 77) = true := by rw [bne_iff_ne]; omega
            have M := Lib.hid m1; clear m1
            by_cases m2 : s[k].toNat = 86
            · have e2 : ((s[k].toNat : Int) != 86) = false := by rw [bne_eq_false_iff_eq]; omega
              have M2 := Lib.hid m2; clear m2
              go_wp2
              go_round
              case rel => exact ⟨k + 1, by omega, by go_num, H.out.trans (by rw [HX.out, allMV, if_pos (by unfold mvB; simp [M2.out])])⟩
              case measure => simp [intOf]; omega
            · have e2 : ((s[k].toNat : Int) != 86) = true := by rw [bne_iff_ne]; omega
              have M2 := Lib.hid m2; clear m2
              go_wp2
              go_ret
              exact ⟨ret_bool (by unfold fvB; rw [allMV_eq, H.out, HX.out, allMV, if_neg (by have := M.out; have := M2.out; unfold mvB; simp; omega)]; simp), rfl⟩
        · go_wp2
          go_ret
          have e : s.data.toList.drop k = [] := List.drop_of_length_le (by simp; omega)
          exact ⟨ret_bool (by unfold fvB; rw [allMV_eq, H.out, e, allMV]; simp), rfl⟩
    · have d2 : ((s.size : Int) != n) = true := by rw [bne_iff_ne]; omega
      have G := Lib.hid g2; clear g2
      go_enter Tryz.func39, Tryz.ntmps39
      go_wp2
      go_ret
      exact ⟨ret_bool (by have := G.out; unfold fvB; simp; intro h; omega), rfl⟩
def lvGo : List Int → Bool
  | [] => true
  | x :: r => if x < 1 then false else if 1000 < x then false else lvGo r
theorem lvGo_eq (l : List Int) : l.all (fun x => decide (1 ≤ x) && decide (x ≤ 1000)) = lvGo l := by
  induction l with
  | nil => rfl
  | cons x r ih =>
    rw [List.all_cons, ih, lvGo]
    by_cases h1 : x < 1
    · simp [h1]; intro h; omega
    · by_cases h2 : 1000 < x
      · simp [h1, h2]; intro _ h; omega
      · have e1 : 1 ≤ x := by omega
        have e2 : x ≤ 1000 := by omega
        simp [h1, h2, e1, e2]
set_option maxHeartbeats 400000 in
theorem impl_lengthsValid (A : Option Addr) (cap : Nat) (xs : List Int) (w : World) (h : Ints w A xs) (hl : xs.length ≤ maxLen) :
    Calls Tryz.prog 38 #[.slice A xs.length cap] w fun e w' => e = .returned (.bool (lvB xs)) ∧ w = w' := by
  unfold maxLen at hl
  by_cases g1 : xs.length < 1
  · have d1 : decide ((xs.length : Int) < 1) = true := by simp; omega
    go_enter Tryz.func38, Tryz.ntmps38
    go_wp2
    go_ret
    exact ⟨ret_bool (by unfold lvB; simp; omega), rfl⟩
  · have d1 : decide ((xs.length : Int) < 1) = false := by simp; omega
    by_cases g2 : 6 < xs.length
    · have d2 : decide ((6 : Int) < (xs.length : Int)) = true := by simp; omega
      go_enter Tryz.func38, Tryz.ntmps38
      go_wp2
      go_ret
      exact ⟨ret_bool (by unfold lvB; simp; omega), rfl⟩
    · have d2 : decide ((6 : Int) < (xs.length : Int)) = false := by simp; omega
      go_enter Tryz.func38, Tryz.ntmps38
      go_wp2
      go_loop [15] (fun i => ∃ (k : Nat), k ≤ xs.length ∧ i = .int .i64 k ∧ Hid (lvGo xs = lvGo (xs.drop k))) (fun i => xs.length - (intOf i).toNat)
      case atStart => exact ⟨0, Nat.zero_le _, rfl, rfl⟩
      case round =>
        obtain ⟨k, hk, rfl, H⟩ := hrel
        by_cases hlt : k < xs.length
        · obtain ⟨b, off, x, rfl, hb, HX, hc, hm⟩ := h.at_ hlt
          clear hm
          by_cases t1 : x < 1
          · have e1 : decide (x < 1) = true := by simp; omega
            go_wp2
            go_ret
            exact ⟨ret_bool (by unfold lvB; rw [lvGo_eq, H.out, HX.out, lvGo, if_pos t1]; simp), rfl⟩
          · have e1 : decide (x < 1) = false := by simp; omega
            by_cases t2 : 1000 < x
            · have e2 : decide ((1000 : Int) < x) = true := by simp; omega
              go_wp2
              go_ret
              exact ⟨ret_bool (by unfold lvB; rw [lvGo_eq, H.out, HX.out, lvGo, if_neg (by omega), if_pos t2]; simp), rfl⟩
            · have e2 : decide ((1000 : Int) < x) = false := by simp; omega
              go_wp2
              go_round
              case rel => exact ⟨k + 1, by omega, by go_num, H.out.trans (by rw [HX.out, lvGo, if_neg (by omega), if_neg (by omega)])⟩
              case measure => simp [intOf]; omega
        · go_wp2
          go_ret
          have e : xs.drop k = [] := List.drop_of_length_le (by omega)
          exact ⟨ret_bool (by unfold lvB; rw [lvGo_eq, H.out, e, lvGo]; simp; omega), rfl⟩
/-- whether angles with folds fold -/
def ffB (xs : List Int) (s : ByteArray) : Bool := foldsN 10 xs.length (angleAt xs) (byteAt s)
def vfB (xs : List Int) (s : ByteArray) : Bool := acB xs && fvB s.data.toList xs.length && ffB xs s
theorem angleAt_mem {xs : List Int} {k : Nat} (h : k < xs.length) : angleAt xs k ∈ xs := by
  unfold angleAt
  rw [List.getD_eq_getElem?_getD, List.getElem?_eq_getElem h]
  exact List.getElem_mem h
theorem fvB_size {s : ByteArray} {n : Nat} (h : fvB s.data.toList n = true) : s.size = n := by
  unfold fvB at h
  simp at h
  omega
set_option maxHeartbeats 800000 in
theorem impl_VertexFolds (A : Option Addr) (cap : Nat) (xs : List Int) (s : ByteArray) (w : World) (h : Ints w A xs) (hl : xs.length ≤ maxLen) (hs : s.size ≤ maxLen) :
    Calls Tryz.prog 133 #[.slice A xs.length cap, .string s] w fun e w' => e = .returned (.bool (vfB xs s)) ∧ Below w.heap.size w w' := by
  cases hv : acB xs with
  | false =>
    have HV := Lib.hid hv; clear hv
    go_enter Tryz.func133, Tryz.ntmps133
    go_wp2_with fail
    refine (impl_AnglesCloses A cap xs w h hl).mono ?_
    rintro e w' ⟨rfl, rfl⟩
    rw [HV.out]
    go_wp2
    go_ret
    exact ⟨ret_bool (by unfold vfB; rw [HV.out]; rfl), Below.refl _ _⟩
  | true =>
    have hv2 := hv
    unfold acB at hv2
    rw [Bool.and_eq_true] at hv2
    obtain ⟨_, h2, h10, hx, _⟩ := avB_parts hv2.1
    have HV := Lib.hid hv; clear hv
    have HX := Lib.hid hx; clear hx hv2
    cases hf : fvB s.data.toList xs.length with
    | false =>
      have HF := Lib.hid hf; clear hf
      go_enter Tryz.func133, Tryz.ntmps133
      go_wp2_with fail
      refine (impl_AnglesCloses A cap xs w h hl).mono ?_
      rintro e w' ⟨rfl, rfl⟩
      rw [HV.out]
      go_wp2_with fail
      refine (impl_FoldsValid s xs.length w hs).mono ?_
      rintro e w' ⟨rfl, rfl⟩
      rw [HF.out]
      go_wp2
      go_ret
      exact ⟨ret_bool (by unfold vfB; rw [HV.out, HF.out]; rfl), Below.refl _ _⟩
    | true =>
      have hsz := fvB_size hf
      have HF := Lib.hid hf; clear hf
      have HS := Lib.hid hsz; clear hsz
      go_enter Tryz.func133, Tryz.ntmps133
      go_wp2_with fail
      refine (impl_AnglesCloses A cap xs w h hl).mono ?_
      rintro e w' ⟨rfl, rfl⟩
      rw [HV.out]
      go_wp2_with fail
      refine (impl_FoldsValid s xs.length w hs).mono ?_
      rintro e w' ⟨rfl, rfl⟩
      rw [HF.out]
      go_wp2_with fail
      refine (newRing_any w A cap xs s h (by omega) (by omega) (by have := HS.out; omega) (by have := HS.out; omega)).mono ?_
      rintro e w1 ⟨rfl, R, hb1⟩
      go_wp2_with fail
      refine (foldsDown_any w1 w.heap.size w.heap.size xs.length _ (angleAt xs) (byteAt s) R h2 h10 (byteAt_lt s) (fun k hk => by have := HX.out _ (angleAt_mem hk); omega) (Nat.le_refl _) (fun k _ => by show w.heap.size ≤ w.heap.size + 1 + k; omega) hb1.size).mono ?_
      rintro e w2 ⟨rfl, hb2⟩
      go_wp2
      go_ret
      exact ⟨ret_bool (by unfold vfB; rw [HV.out, HF.out]; rfl), hb1.trans hb2⟩
end Go.Proofs.YtkdlipbegdiaaaaGreatDoor
namespace Go.Proofs.YtkdlipbegdiaaaaGreatDoor
open Go.RowKit
def inB (n lo hi : Int) : Bool := decide (lo ≤ n) && decide (n ≤ hi)
theorem inB_yes {n lo hi : Int} (h1 : lo ≤ n) (h2 : n ≤ hi) : inB n lo hi = true := by unfold inB; simp [h1, h2]
theorem inB_low {n lo hi : Int} (h1 : n < lo) : inB n lo hi = false := by unfold inB; simp; intro h; omega
theorem inB_high {n lo hi : Int} (h1 : hi < n) : inB n lo hi = false := by unfold inB; simp; intro _; omega
set_option maxHeartbeats 400000 in
theorem spec_l6In (n lo hi : Int) (w : World) :
    Calls Tryz.prog 66 #[.int .i64 n, .int .i64 lo, .int .i64 hi] w fun e w' => e = .returned (.bool (inB n lo hi)) ∧ w = w' := by
  by_cases h1 : lo ≤ n
  · have d1 : decide (lo ≤ n) = true := by simp; omega
    by_cases h2 : n ≤ hi
    · have d2 : decide (n ≤ hi) = true := by simp; omega
      go_enter Tryz.func66, Tryz.ntmps66
      go_wp2
      go_ret
      exact ⟨ret_bool (inB_yes h1 h2).symm, rfl⟩
    · have d2 : decide (n ≤ hi) = false := by simp; omega
      go_enter Tryz.func66, Tryz.ntmps66
      go_wp2
      go_ret
      exact ⟨ret_bool (inB_high (by omega)).symm, rfl⟩
  · have d1 : decide (lo ≤ n) = false := by simp; omega
    go_enter Tryz.func66, Tryz.ntmps66
    go_wp2
    go_ret
    exact ⟨ret_bool (inB_low (by omega)).symm, rfl⟩
set_option maxHeartbeats 400000 in
theorem spec_FoldsValid (s : ByteArray) (n : Int) (w : World) (hs : s.size ≤ maxLen) :
    Calls Tryz.prog 45 #[.string s, .int .i64 n] w fun e w' => e = .returned (.bool (fvB s.data.toList n)) ∧ w = w' := by
  unfold maxLen at hs
  go_enter Tryz.func45, Tryz.ntmps45
  go_wp2
  go_loop [5] (fun i => ∃ k : Nat, k ≤ s.size ∧ i = .int .i64 k ∧ Hid (allMV s.data.toList = allMV (s.data.toList.drop k))) (fun i => s.size - (intOf i).toNat)
  case atStart => exact ⟨0, Nat.zero_le _, rfl, rfl⟩
  case round =>
    obtain ⟨k, hk, rfl, H⟩ := hrel
    by_cases hlt : k < s.size
    · have HX := Lib.hid (byte_drop hlt)
      by_cases m1 : s[k].toNat = 77
      · have e1 : ((s[k].toNat : Int) != 77) = false := by rw [bne_eq_false_iff_eq]; omega
        have M := Lib.hid m1; clear m1
        go_wp2
        go_round
        case rel => exact ⟨k + 1, by omega, by go_num, H.out.trans (by rw [HX.out, allMV, if_pos (by unfold mvB; simp [M.out])])⟩
        case measure => simp [intOf]; omega
      · have e1 : ((s[k].toNat : Int) != 77) = true := by rw [bne_iff_ne]; omega
        have M := Lib.hid m1; clear m1
        by_cases m2 : s[k].toNat = 86
        · have e2 : ((s[k].toNat : Int) != 86) = false := by rw [bne_eq_false_iff_eq]; omega
          have M2 := Lib.hid m2; clear m2
          go_wp2
          go_round
          case rel => exact ⟨k + 1, by omega, by go_num, H.out.trans (by rw [HX.out, allMV, if_pos (by unfold mvB; simp [M2.out])])⟩
          case measure => simp [intOf]; omega
        · have e2 : ((s[k].toNat : Int) != 86) = true := by rw [bne_iff_ne]; omega
          have M2 := Lib.hid m2; clear m2
          go_wp2
          go_ret
          exact ⟨ret_bool (by unfold fvB; rw [allMV_eq, H.out, HX.out, allMV, if_neg (by have := M.out; have := M2.out; unfold mvB; simp; omega)]; simp), rfl⟩
    · go_wp2
      go_ret
      have e : s.data.toList.drop k = [] := List.drop_of_length_le (by simp; omega)
      exact ⟨ret_bool (by unfold fvB; rw [allMV_eq, H.out, e, allMV, Bool.eq_iff_iff]; simp), rfl⟩
end Go.Proofs.YtkdlipbegdiaaaaGreatDoor
