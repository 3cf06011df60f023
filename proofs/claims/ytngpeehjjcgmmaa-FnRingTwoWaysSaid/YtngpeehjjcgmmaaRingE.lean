/- The program's 'newCreaseRing': the ring of linked creases for angles and folds. No condition. -/
import Derived.Test.YtngpeehjjcgmmaaRingD
namespace Go.Proofs.Ytngpeehjjcgmmaa
open Go.RowKit

theorem Ring.push {w : World} {p k : Nat} {b : Nat → Nat} {x : Nat → Int} {f : Nat → Nat} (h : Ring w p k b x f) (hk : 1 ≤ k) (hb : b k = w.heap.size) :
    Ring ((((w.alloc (.cells #[.int .i64 (x k), .int .u8 (f k), ptr (b (k - 1)), ptr (b 0)] 59)).setCell ⟨b (k - 1), 3, none⟩ (ptr (b k))).setCell ⟨b 0, 2, none⟩ (ptr (b k))).setCell ⟨p, 1, none⟩ (.int .i64 ((k + 1 : Nat) : Int))) p (k + 1) b x f := by
  have lt : ∀ j, j < k → b j < w.heap.size := fun j hj => (h.node j hj).lt
  have np : ∀ j, j < k → p ≠ b j := fun k hk => Blk.ne_ h.head (h.node k hk) (by decide)
  have npk : p ≠ b k := fun e => by have := h.head.lt; omega
  refine ⟨?_, fun j hj => ?_, fun i j hi hj e => ?_⟩
  · exact (((h.head.alloc _).far (p := ⟨b (k - 1), 3, none⟩) (np _ (by omega)) _).far (p := ⟨b 0, 2, none⟩) (np _ (by omega)) _).set_ 1 _
  · by_cases hjk : j = k
    · subst hjk
      have h0 : Blk (w.alloc (.cells #[.int .i64 (x j), .int .u8 (f j), ptr (b (j - 1)), ptr (b 0)] 59)) (b j) 59 #[.int .i64 (x j), .int .u8 (f j), ptr (b (j - 1)), ptr (b 0)] := by rw [hb]; exact Blk.new w _ _
      have e1 := lt (j - 1) (by omega)
      have e2 := lt 0 (by omega)
      have h1 := ((h0.far (p := ⟨b (j - 1), 3, none⟩) (by show b j ≠ b (j - 1); omega) (ptr (b j))).far (p := ⟨b 0, 2, none⟩) (by show b j ≠ b 0; omega) (ptr (b j))).far (p := ⟨p, 1, none⟩) (fun e => npk e.symm) (.int .i64 ((j + 1 : Nat) : Int))
      unfold nodeCells
      rw [show prv (j + 1) j = j - 1 by unfold prv; split <;> omega, show nxt (j + 1) j = 0 by unfold nxt; rw [if_pos rfl]]
      exact h1
    · have hj' : j < k := by omega
      have h0 := (h.node j hj').alloc (.cells #[.int .i64 (x k), .int .u8 (f k), ptr (b (k - 1)), ptr (b 0)] 59)
      have e1 : prv (k + 1) j = if j = 0 then k else prv k j := by unfold prv; split <;> simp
      have e2 : nxt (k + 1) j = if j = k - 1 then k else nxt k j := by unfold nxt; repeat' split
                                                                       all_goals omega
      unfold nodeCells
      rw [e1, e2]
      unfold nodeCells at h0
      refine Blk.far (p := ⟨p, 1, none⟩) ?_ (fun e => np j hj' e.symm) _
      by_cases z1 : j = k - 1
      · rw [if_pos z1]
        rw [← z1]
        have h1 := h0.set_ 3 (ptr (b k))
        rw [z1] at h1
        rw [← z1] at h1
        by_cases z2 : j = 0
        · rw [if_pos z2]
          have h2 := h1.set_ 2 (ptr (b k))
          subst z2
          exact h2
        · rw [if_neg z2]
          exact h1.far (p := ⟨b 0, 2, none⟩) (fun e => z2 (h.inj _ _ hj' (by omega) e)) _
      · rw [if_neg z1]
        have h1 := h0.far (p := ⟨b (k - 1), 3, none⟩) (fun e => z1 (h.inj _ _ hj' (by omega) e)) (ptr (b k))
        by_cases z2 : j = 0
        · rw [if_pos z2]
          have h2 := h1.set_ 2 (ptr (b k))
          subst z2
          exact h2
        · rw [if_neg z2]
          exact h1.far (p := ⟨b 0, 2, none⟩) (fun e => z2 (h.inj _ _ hj' (by omega) e)) _
  · by_cases hik : i = k
    · by_cases hjk : j = k
      · omega
      · have := lt j (by omega); rw [hik] at e; omega
    · by_cases hjk : j = k
      · have := lt i (by omega); rw [hjk] at e; omega
      · exact h.inj i j (by omega) (by omega) e

theorem Ring.one {w : World} {p : Nat} {b : Nat → Nat} {x : Nat → Int} {f : Nat → Nat} (hb : b 0 = w.heap.size) (h : Blk w p 57 #[.pointer none, .int .i64 0]) :
    Ring (((w.alloc (.cells #[.int .i64 (x 0), .int .u8 (f 0), ptr (b 0), ptr (b 0)] 59)).setCell ⟨p, 0, none⟩ (ptr (b 0))).setCell ⟨p, 1, none⟩ (.int .i64 1)) p 1 b x f := by
  have npk : b 0 ≠ p := fun e => by have := h.lt; omega
  refine ⟨((h.alloc _).set_ 0 _).set_ 1 _, fun j hj => ?_, fun i j hi hj _ => by omega⟩
  obtain rfl : j = 0 := by omega
  have h0 : Blk (w.alloc (.cells #[.int .i64 (x 0), .int .u8 (f 0), ptr (b 0), ptr (b 0)] 59)) (b 0) 59 #[.int .i64 (x 0), .int .u8 (f 0), ptr (b 0), ptr (b 0)] := by
    rw [hb]; exact Blk.new w _ _
  exact (h0.far (p := ⟨p, 0, none⟩) npk _).far (p := ⟨p, 1, none⟩) npk _

theorem Ring.cast {w : World} {p n m : Nat} {b : Nat → Nat} {x : Nat → Int} {f : Nat → Nat} (h : Ring w p n b x f) (e : n = m) : Ring w p m b x f := e ▸ h

/-- the byte k of a text -/
def byteAt (s : ByteArray) (k : Nat) : Nat := (s.data.toList.getD k 0).toNat
theorem byteAt_eq (s : ByteArray) (k : Nat) (h : k < s.size) : byteAt s k = s[k].toNat := by
  unfold byteAt
  have : k < s.data.toList.length := by simpa using h
  rw [List.getD_eq_getElem?_getD, List.getElem?_eq_getElem this]
  rfl
theorem byteAt_lt (s : ByteArray) (k : Nat) : byteAt s k < 256 := UInt8.toNat_lt _
def angleAt (xs : List Int) (k : Nat) : Int := xs.getD k 0

theorem angle_of {xs r : List Int} {k : Nat} {y : Int} (h : xs.drop k = y :: r) : angleAt xs k = y := by
  unfold angleAt
  have : (xs.drop k)[0]? = some y := by rw [h]; rfl
  rw [List.getElem?_drop] at this
  rw [List.getD_eq_getElem?_getD]
  simp only [Nat.add_zero] at this
  rw [this]; rfl

set_option maxHeartbeats 2000000 in
set_option maxRecDepth 100000 in
theorem newRing_any (w : World) (A : Option Addr) (cap : Nat) (xs : List Int) (s : ByteArray) (h : Ints w A xs) (hn0 : 0 < xs.length) (hn : xs.length ≤ 100) (hs : xs.length ≤ s.size) (hs2 : s.size ≤ 1000000) :
    Calls Try.prog 21 #[.slice A xs.length cap, .string s] w fun e w' => e = .returned (ptr w.heap.size) ∧ Ring w' w.heap.size xs.length (fun k => w.heap.size + 1 + k) (angleAt xs) (byteAt s) ∧ Below w.heap.size w w' := by
  obtain ⟨b, hbk⟩ : ∃ b : Nat → Nat, ∀ k, b k = w.heap.size + 1 + k := ⟨fun k => w.heap.size + 1 + k, fun _ => rfl⟩
  have eb0 : (fun k => w.heap.size + 1 + k) = b := funext fun k => (hbk k).symm
  rw [eb0]
  clear eb0
  have BK := Lib.hid hbk
  clear hbk
  go_enter Try.func21, Try.ntmps21
  go_wp2
  go_loopg [14] (xs.length + 1) (fun g s14 wr => ∃ k, k ≤ xs.length ∧ s14 = .int .i64 k ∧ xs.length - k < g ∧ Below w.heap.size w wr ∧ wr.heap.size = w.heap.size + 1 + k ∧
      (k = 0 → Blk wr w.heap.size 57 #[.pointer none, .int .i64 0]) ∧ (1 ≤ k → Ring wr w.heap.size k b (angleAt xs) (byteAt s)))
  case atStart => exact ⟨0, by omega, rfl, by omega, (Below.refl _ _).alloc (Nat.le_refl _) _, by simp, fun _ => Blk.new w _ _, fun h => by omega⟩
  case round =>
    obtain ⟨k, hk, rfl, hg, hbel, hz, h0, h1⟩ := hrel
    have HZ := Lib.hid hz; clear hz
    cases gk with
    | zero => omega
    | succ g =>
    have hI := h.below hbel
    by_cases hlt : k < xs.length
    · obtain ⟨bb, off, y, rfl, hbb, HY, hc, hm⟩ := hI.at_ hlt
      have eb : byteAt s k = s[k].toNat := byteAt_eq s k (by omega)
      have HB := Lib.hid eb; clear eb
      by_cases z : k = 0
      · have R := h0 z
        clear h0 h1
        have F0 : ∀ o, (wr.alloc o).cell? ⟨w.heap.size, 0, none⟩ = some (.pointer none) := fun o => by rw [(R.alloc o).cell]; rfl
        have F1 : ∀ o u, ((wr.alloc o).setCell ⟨w.heap.size, 0, none⟩ u).cell? ⟨w.heap.size, 1, none⟩ = some (.int .i64 0) := fun o u => by rw [((R.alloc o).set_ 0 u).cell]; rfl
        have G0 : ∀ o, (wr.alloc o).frozen? ⟨w.heap.size, 0, none⟩ = false := fun o => (R.alloc o).frozen 0
        have G1 : ∀ o, (wr.alloc o).frozen? ⟨w.heap.size, 1, none⟩ = false := fun o => (R.alloc o).frozen 1
        have eb0 : b 0 = wr.heap.size := (BK.out 0).trans (by rw [HZ.out, z])
        have O : Ring _ w.heap.size 1 b (angleAt xs) (byteAt s) := Ring.one eb0 R
        have HO := Lib.hid O
        have E0 := Lib.hid eb0
        have Z := Lib.hid z
        clear O eb0 z
        go_wp2
        have O2 := HO.out
        have ea := angle_of HY.out
        have z := Z.out
        have ebb : byteAt s 0 = s[k].toNat := by rw [← HB.out, z]
        rw [z] at ea
        rw [ea, ebb, E0.out] at O2
        have hsz := hbel.size
        go_roundg g
        case measure => omega
        case rel => exact ⟨k + 1, by omega, by go_num, by omega, ((hbel.alloc hsz _).setCell (p := ⟨w.heap.size, 0, none⟩) (Nat.le_refl _) _).setCell (p := ⟨w.heap.size, 1, none⟩) (Nat.le_refl _) _, by simp only [World.size_alloc, World.size_setCell]; have := HZ.out; omega, fun h => by omega, fun _ => O2.cast (by omega)⟩
      · have R := h1 (by omega)
        clear h0 h1
        have np : ∀ j, j < k → w.heap.size ≠ b j := fun j hj => Blk.ne_ R.head (R.node j hj) (by decide)
        have i0 : 0 < k := by omega
        have i1 : k - 1 < k := by omega
        have np0 := np _ i0
        have np1 := np _ i1
        have F0 : ∀ o, (wr.alloc o).cell? ⟨w.heap.size, 0, none⟩ = some (ptr (b 0)) := fun o => by rw [(R.head.alloc o).cell]; rfl
        have F1 : ∀ o, (wr.alloc o).cell? ⟨b 0, 2, none⟩ = some (ptr (b (k - 1))) := fun o => by rw [((R.node 0 i0).alloc o).cell]; rfl
        have F2 : ∀ o, (wr.alloc o).cell? ⟨b (k - 1), 3, none⟩ = some (ptr (b (nxt k (k - 1)))) := fun o => by rw [((R.node _ i1).alloc o).cell]; rfl
        have F3 : ∀ o u, ((wr.alloc o).setCell ⟨b (k - 1), 3, none⟩ u).cell? ⟨b 0, 2, none⟩ = some (ptr (b (k - 1))) := fun o u => by
          by_cases e : b 0 = b (k - 1)
          · have h2 := ((R.node 0 i0).alloc o).set_ 3 u
            have h3 : ((wr.alloc o).setCell ⟨b 0, 3, none⟩ u).cell? ⟨b 0, 2, none⟩ = some (ptr (b (k - 1))) := by rw [h2.cell]; rfl
            have e4 : (⟨b (k - 1), 3, none⟩ : Addr) = ⟨b 0, 3, none⟩ := by rw [e]
            rw [e4]
            exact h3
          · rw [(((R.node 0 i0).alloc o).far (p := ⟨b (k - 1), 3, none⟩) e u).cell]; rfl
        have F4 : ∀ o u v, (((wr.alloc o).setCell ⟨b (k - 1), 3, none⟩ u).setCell ⟨b 0, 2, none⟩ v).cell? ⟨w.heap.size, 1, none⟩ = some (.int .i64 k) := fun o u v => by
          rw [(((R.head.alloc o).far (p := ⟨b (k - 1), 3, none⟩) np1 u).far (p := ⟨b 0, 2, none⟩) np0 v).cell]; rfl
        have G0 : ∀ o, (wr.alloc o).frozen? ⟨b (k - 1), 3, none⟩ = false := fun o => ((R.node _ i1).alloc o).frozen 3
        have G1 : ∀ o, (wr.alloc o).frozen? ⟨b 0, 2, none⟩ = false := fun o => ((R.node _ i0).alloc o).frozen 2
        have G2 : ∀ o, (wr.alloc o).frozen? ⟨w.heap.size, 1, none⟩ = false := fun o => (R.head.alloc o).frozen 1
        have O := R.push (by omega) ((BK.out k).trans HZ.out.symm)
        have HO := Lib.hid O
        clear O np
        go_wp2
        have O2 := HO.out
        rw [angle_of HY.out, HB.out, (BK.out k).trans HZ.out.symm] at O2
        have e5 : ((k + 1 : Nat) : Int) = (k : Int) + 1 := by omega
        rw [e5] at O2
        have b0 := BK.out 0
        have b1 := BK.out (k - 1)
        have hsz := hbel.size
        go_roundg g
        case measure => omega
        case rel => exact ⟨k + 1, by omega, by go_num, by omega, (((hbel.alloc hsz _).setCell (p := ⟨b (k - 1), 3, none⟩) (by show _ ≤ b (k - 1); omega) _).setCell (p := ⟨b 0, 2, none⟩) (by show _ ≤ b 0; omega) _).setCell (p := ⟨w.heap.size, 1, none⟩) (Nat.le_refl _) _, by simp only [World.size_alloc, World.size_setCell]; have := HZ.out; omega, fun h => by omega, fun _ => O2⟩
    · obtain rfl : k = xs.length := by omega
      have R := h1 (by omega)
      clear h0 h1
      go_wp2
      go_ret
      exact ⟨rfl, R, hbel⟩

end Go.Proofs.Ytngpeehjjcgmmaa
