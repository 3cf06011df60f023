/- The program's 'crimp' on a ring of linked creases: the ring that is left. No condition. The walk of the program's 'crimp': an allowed index, small angles. The program's 'newCreaseRing': the ring of linked creases for angles and folds. No condition. The program's 'foldsDown': crimps at the least index again and again. No condition. -/
import Derived.Test.YtkdlipbegdiaaaaGreatDoorEzBP3
namespace Go.Proofs.YtkdlipbegdiaaaaGreatDoor
open Go.RowKit
/-- the old index of the crease that has the index k behind a crimp at i -/
def sig (n i k : Nat) : Nat := if i = 0 then (if k = 0 then n - 1 else k + 1) else if i = n - 1 then (if k = 0 then n - 2 else k) else (if k < i then k else k + 2)
def crimpX (n : Nat) (x : Nat → Int) (i k : Nat) : Int := if sig n i k = prv n i then x (prv n i) + (x (nxt n i) - x i) else x (sig n i k)
section
variable {n i : Nat}
theorem sig_lt {k : Nat} (hn : 4 ≤ n) (hi : i < n) (hk : k < n - 2) : sig n i k < n ∧ sig n i k ≠ i ∧ sig n i k ≠ nxt n i := by
  unfold sig nxt; repeat' split
  all_goals omega
theorem sig_inj {j k : Nat} (hn : 4 ≤ n) (_hi : i < n) (hj : j < n - 2) (hk : k < n - 2) (h : sig n i j = sig n i k) : j = k := by
  unfold sig at h
  repeat' split at h
  all_goals omega
theorem sig_nxt {k : Nat} (hn : 4 ≤ n) (hi : i < n) (hk : k < n - 2) : sig n i (nxt (n - 2) k) = if sig n i k = prv n i then nxt n (nxt n i) else nxt n (sig n i k) := by
  unfold sig nxt prv; repeat' split
  all_goals omega
theorem sig_prv {k : Nat} (hn : 4 ≤ n) (hi : i < n) (hk : k < n - 2) : sig n i (prv (n - 2) k) = if sig n i k = nxt n (nxt n i) then prv n i else prv n (sig n i k) := by
  unfold sig nxt prv; repeat' split
  all_goals omega
theorem sig_zero (hn : 4 ≤ n) (hi : i < n) : sig n i 0 = if i = 0 ∨ nxt n i = 0 then prv n i else 0 := by
  unfold sig nxt prv; repeat' split
  all_goals omega
theorem nn_ne (hn : 4 ≤ n) (_hi : i < n) : nxt n (nxt n i) ≠ prv n i := by
  unfold nxt prv; repeat' split
  all_goals omega
end
structure Nodes (w : World) (n : Nat) (b : Nat → Nat) (x : Nat → Int) (f : Nat → Nat) : Prop where
  node : ∀ k, k < n → Blk w (b k) 183 (nodeCells n b x f k)
  inj : ∀ i j, i < n → j < n → b i = b j → i = j
theorem Ring.nodes {w : World} {p n : Nat} {b : Nat → Nat} {x : Nat → Int} {f : Nat → Nat} (h : Ring w p n b x f) : Nodes w n b x f := ⟨h.node, h.inj⟩
theorem crimp_ring {w : World} {p n i s : Nat} {b : Nat → Nat} {x : Nat → Int} {f : Nat → Nat} (h : Nodes w n b x f) (hd : Blk w p 181 #[ptr (b s), .int .i64 n])
    (hn : 4 ≤ n) (hi : i < n) (hs : s = if i = 0 ∨ nxt n i = 0 then prv n i else 0) :
    Ring ((((w.setCell ⟨b (prv n i), 0, none⟩ (.int .i64 (x (prv n i) + (x (nxt n i) - x i)))).setCell ⟨b (prv n i), 3, none⟩ (ptr (b (nxt n (nxt n i))))).setCell ⟨b (nxt n (nxt n i)), 2, none⟩ (ptr (b (prv n i)))).setCell ⟨p, 1, none⟩ (.int .i64 ((n - 2 : Nat) : Int)))
      p (n - 2) (fun k => b (sig n i k)) (crimpX n x i) (fun k => f (sig n i k)) := by
  have l1 : prv n i < n := prv_lt hi
  have l2 : nxt n (nxt n i) < n := nxt_lt (nxt_lt hi)
  have np : ∀ k, k < n → p ≠ b k := fun k hk => Blk.ne_ hd (h.node k hk) (by decide)
  refine ⟨?_, fun k hk => ?_, fun j k hj hk e => sig_inj hn hi hj hk (h.inj _ _ (sig_lt hn hi hj).1 (sig_lt hn hi hk).1 e)⟩
  · have := (((hd.far (p := ⟨b (prv n i), 0, none⟩) (np _ l1) (.int .i64 (x (prv n i) + (x (nxt n i) - x i)))).far (p := ⟨b (prv n i), 3, none⟩) (np _ l1) (ptr (b (nxt n (nxt n i))))).far (p := ⟨b (nxt n (nxt n i)), 2, none⟩) (np _ l2) (ptr (b (prv n i)))).set_ 1 (.int .i64 ((n - 2 : Nat) : Int))
    rw [sig_zero hn hi, ← hs]
    exact this
  · obtain ⟨hl, hne1, hne2⟩ := sig_lt hn hi hk
    have h0 := h.node _ hl
    have far : ∀ j, j < n → sig n i k ≠ j → b (sig n i k) ≠ b j := fun j hj hne e => hne (h.inj _ _ hl hj e)
    have hp : b (sig n i k) ≠ p := fun e => np _ hl e.symm
    have nne := nn_ne hn hi
    unfold nodeCells
    dsimp only
    rw [sig_nxt hn hi hk, sig_prv hn hi hk]
    unfold crimpX
    by_cases e1 : sig n i k = prv n i
    · have e2 : sig n i k ≠ nxt n (nxt n i) := fun e => nne (e.symm.trans e1)
      rw [if_pos e1, if_pos e1, if_neg e2, e1]
      have h1 := (((h.node _ l1).set_ 0 (.int .i64 (x (prv n i) + (x (nxt n i) - x i)))).set_ 3 (ptr (b (nxt n (nxt n i))))).far (p := ⟨b (nxt n (nxt n i)), 2, none⟩) (by rw [← e1]; exact far _ l2 e2) (ptr (b (prv n i)))
      exact h1.far (p := ⟨p, 1, none⟩) (by rw [← e1]; exact hp) _
    · rw [if_neg e1, if_neg e1]
      have h1 := (h0.far (p := ⟨b (prv n i), 0, none⟩) (far _ l1 e1) (.int .i64 (x (prv n i) + (x (nxt n i) - x i)))).far (p := ⟨b (prv n i), 3, none⟩) (far _ l1 e1) (ptr (b (nxt n (nxt n i))))
      by_cases e2 : sig n i k = nxt n (nxt n i)
      · rw [if_pos e2, e2]
        rw [e2] at h1 hp
        exact (h1.set_ 2 (ptr (b (prv n i)))).far (p := ⟨p, 1, none⟩) hp _
      · rw [if_neg e2]
        exact (h1.far (p := ⟨b (nxt n (nxt n i)), 2, none⟩) (far _ l2 e2) (ptr (b (prv n i)))).far (p := ⟨p, 1, none⟩) hp _
end Go.Proofs.YtkdlipbegdiaaaaGreatDoor
namespace Go.Proofs.YtkdlipbegdiaaaaGreatDoor
open Go.RowKit
theorem run_eql_crease {w : World} {n : Nat} {b : Nat → Nat} {x : Nat → Int} {f : Nat → Nat} (h : Nodes w n b x f) {i j : Nat} (hi : i < n) (hj : j < n) :
    (binOp .eql 179 (ptr (b i)) (ptr (b j))).run Tryz.prog w = .ok (.bool (decide (i = j))) w := by
  obtain ⟨j0, ij0, sj0⟩ := creaseInfo
  by_cases e : i = j
  · subst e
    rw [run_eql_ptr_same (P := Tryz.prog) w ⟨b i, 0, none⟩ Tryz.underlying179 ij0]; simp
  · rw [run_eql_ptr_other (P := Tryz.prog) w (a := ⟨b i, 0, none⟩) (b := ⟨b j, 0, none⟩) Tryz.underlying179 ij0 sj0 (by intro h2; injection h2 with h2; exact e (h.inj _ _ hi hj h2)) (h.node i hi) (h.node j hj)]
    simp [e]
section
variable {w w' : World} {p n : Nat} {b : Nat → Nat} {x : Nat → Int} {f : Nat → Nat}
theorem Ring.drew (h : Ring w p n b x f) : Ring w.drew p n b x f := ⟨h.head, h.node, h.inj⟩
theorem Nodes.angle (h : Nodes w n b x f) {k : Nat} (hk : k < n) : w.cell? ⟨b k, 0, none⟩ = some (.int .i64 (x k)) := by rw [(h.node k hk).cell]; rfl
theorem Nodes.prev (h : Nodes w n b x f) {k : Nat} (hk : k < n) : w.cell? ⟨b k, 2, none⟩ = some (ptr (b (prv n k))) := by rw [(h.node k hk).cell]; rfl
theorem Nodes.next (h : Nodes w n b x f) {k : Nat} (hk : k < n) : w.cell? ⟨b k, 3, none⟩ = some (ptr (b (nxt n k))) := by rw [(h.node k hk).cell]; rfl
end
set_option maxHeartbeats 2000000 in
set_option maxRecDepth 100000 in
theorem crimp_any (w : World) (B p n : Nat) (b : Nat → Nat) (x : Nat → Int) (f : Nat → Nat) (i : Nat) (h : Ring w p n b x f) (hi : i < n) (h4 : 4 ≤ n) (hn : n ≤ 100)
    (hx : ∀ k, k < n → -1000000 ≤ x k ∧ x k ≤ 1000000) (hB : B ≤ p) (hBb : ∀ k, k < n → B ≤ b k) :
    Calls Tryz.prog 156 #[ptr p, .int .i64 i] w fun e w' => e = .returned (.tuple #[]) ∧ Ring w' p (n - 2) (fun k => b (sig n i k)) (crimpX n x i) (fun k => f (sig n i k)) ∧ Below B w w' := by
  have c1 := h.first
  go_enter Tryz.func156, Tryz.ntmps156
  go_wp2
  go_loopg [1, 4] (i + 1) (fun g s1 s4 wr => w = wr ∧ ∃ j, j ≤ i ∧ s1 = .int .i64 ((i - j : Nat) : Int) ∧ s4 = ptr (b j) ∧ i - j < g)
  case atStart => exact ⟨rfl, 0, by omega, rfl, rfl, by omega⟩
  case round =>
    obtain ⟨rfl, j, hj, rfl, rfl, hg⟩ := hrel
    cases gk with
    | zero => omega
    | succ g =>
    by_cases hlt : j < i
    · have d1 := h.next (k := j) (by omega)
      have e1 : nxt n j = j + 1 := by unfold nxt; rw [if_neg (by omega)]
      rw [e1] at d1
      clear e1
      have e2 : ((i - j : Nat) : Int) = (i : Int) - j := by omega
      rw [e2]
      clear e2
      go_wp2
      go_roundg g
      case measure => omega
      case rel => exact ⟨rfl, j + 1, by omega, by congr 1; omega, rfl, by omega⟩
    · obtain rfl : j = i := by omega
      have e2 : ((j - j : Nat) : Int) = 0 := by omega
      rw [e2]
      clear e2
      have d1 := h.next hi
      have d2 := h.prev hi
      go_wp2
      go_quiet (fail)
      have np : ∀ k, k < n → p ≠ b k := fun k hk => Blk.ne_ h.head (h.node k hk) (by decide)
      have hN : ∀ v, Nodes ((w.setCell ⟨p, 0, none⟩ v).drewN nq) n b x f := fun v => ⟨fun k hk => (h.node k hk).far (p := ⟨p, 0, none⟩) (fun e => np k hk e.symm) v, h.inj⟩
      have hH : ∀ v, Blk ((w.setCell ⟨p, 0, none⟩ v).drewN nq) p 181 #[v, .int .i64 n] := fun v => h.head.set_ 0 v
      have hBel : ∀ v, Below B w ((w.setCell ⟨p, 0, none⟩ v).drewN nq) := fun v => below_drewN ((Below.refl B w).setCell (p := ⟨p, 0, none⟩) hB v) nq
      have AL := Lib.hid (And.intro hN (And.intro hH hBel))
      clear hN hH hBel np
      have fp : (w.drewN nq).frozen? ⟨p, 0, none⟩ = false := h.head.frozen 0
      have q1 := run_eql_crease (h.drewN nq).nodes hi (j := 0) (by omega)
      have q2 := run_eql_crease (h.drewN nq).nodes (nxt_lt hi) (j := 0) (by omega)
      go_upto_region 5 with (fail)
      go_cut [40] (fun s40 wc => s40 = .bool (decide (j = 0 ∨ nxt n j = 0)) ∧ w.drewN nq = wc)
      case first =>
        by_cases z1 : j = 0
        · rw [decide_eq_true z1] at q1
          have Z1 := Lib.hid z1; clear z1
          go_wp2
          go_meet
          case rel => exact ⟨by rw [decide_eq_true (Or.inl Z1.out)], rfl⟩
        · rw [decide_eq_false z1] at q1
          have Z1 := Lib.hid z1; clear z1
          by_cases z2 : nxt n j = 0
          · rw [decide_eq_true z2] at q2
            have Z2 := Lib.hid z2; clear z2
            go_wp2
            go_meet
            case rel => exact ⟨by rw [decide_eq_true (Or.inr Z2.out)], rfl⟩
          · rw [decide_eq_false z2] at q2
            have Z2 := Lib.hid z2; clear z2
            go_wp2
            go_meet
            case rel => exact ⟨by rw [decide_eq_false (fun e => e.elim Z1.out Z2.out)], rfl⟩
      case rest =>
      obtain ⟨rfl, rfl⟩ := hcut
      clear q1 q2
      go_upto_if 40 with (fail)
      go_cut [] (fun wc => ∃ s, Hid (s = if j = 0 ∨ nxt n j = 0 then prv n j else 0) ∧ Nodes wc n b x f ∧ Blk wc p 181 #[ptr (b s), .int .i64 n] ∧ Below B w wc)
      case first =>
        by_cases z1 : j = 0 ∨ nxt n j = 0
        · rw [decide_eq_true z1]
          have Z1 := Lib.hid z1; clear z1
          go_wp2
          go_meet
          case rel => exact ⟨prv n j, by show _ = _; rw [if_pos Z1.out], AL.out.1 _, AL.out.2.1 _, AL.out.2.2 _⟩
        · rw [decide_eq_false z1]
          have Z1 := Lib.hid z1; clear z1
          go_wp2
          go_meet
          case rel => exact ⟨0, by show _ = _; rw [if_neg Z1.out], (h.drewN nq).nodes, (h.drewN nq).head, below_drewN (Below.refl B w) nq⟩
      case rest =>
        obtain ⟨s, HS, hN, hH, hbel⟩ := hcut
        have a1 := hN.angle (prv_lt hi)
        have a2 := hN.angle (nxt_lt hi)
        have a3 := hN.angle hi
        have f1 : wc.frozen? ⟨b (prv n j), 0, none⟩ = false := (hN.node _ (prv_lt hi)).frozen 0
        obtain ⟨x1, x2⟩ := hx _ (prv_lt hi)
        obtain ⟨x3, x4⟩ := hx _ (nxt_lt hi)
        obtain ⟨x5, x6⟩ := hx _ hi
        clear hx d1 d2 c1 AL fp
        go_wp2
        have np : ∀ k, k < n → p ≠ b k := fun k hk => Blk.ne_ hH (hN.node k hk) (by decide)
        have lp := prv_lt hi
        have ln := nxt_lt hi
        have lnn := nxt_lt ln
        have ne1 : b (nxt n j) ≠ b (prv n j) := fun e => by
          have := hN.inj _ _ ln lp e
          revert this; unfold nxt prv; repeat' split
          all_goals omega
        have ne2 : b (nxt n (nxt n j)) ≠ b (prv n j) := fun e => nn_ne h4 hi (hN.inj _ _ lnn lp e)
        have ne3 : b (nxt n (nxt n j)) ≠ b (nxt n j) := fun e => by
          have := hN.inj _ _ lnn ln e
          revert this; unfold nxt; repeat' split
          all_goals omega
        have np1 := np _ lp
        have np2 := np _ ln
        have np3 := np _ lnn
        have g1 : ∀ u, (wc.setCell ⟨b (prv n j), 0, none⟩ u).cell? ⟨b (nxt n j), 3, none⟩ = some (ptr (b (nxt n (nxt n j)))) := fun u => by
          rw [((hN.node _ ln).far (p := ⟨b (prv n j), 0, none⟩) ne1 u).cell]; rfl
        have g2 : ∀ u, (wc.setCell ⟨b (prv n j), 0, none⟩ u).cell? ⟨b (prv n j), 3, none⟩ = some (ptr (b (nxt n (prv n j)))) := fun u => by
          rw [((hN.node _ lp).set_ 0 u).cell]; rfl
        have g3 : ∀ u t, ((wc.setCell ⟨b (prv n j), 0, none⟩ u).setCell ⟨b (prv n j), 3, none⟩ t).cell? ⟨b (nxt n j), 3, none⟩ = some (ptr (b (nxt n (nxt n j)))) := fun u t => by
          rw [(((hN.node _ ln).far (p := ⟨b (prv n j), 0, none⟩) ne1 u).far (p := ⟨b (prv n j), 3, none⟩) ne1 t).cell]; rfl
        have g4 : ∀ u t, ((wc.setCell ⟨b (prv n j), 0, none⟩ u).setCell ⟨b (prv n j), 3, none⟩ t).cell? ⟨b (nxt n (nxt n j)), 2, none⟩ = some (ptr (b (prv n (nxt n (nxt n j))))) := fun u t => by
          rw [(((hN.node _ lnn).far (p := ⟨b (prv n j), 0, none⟩) ne2 u).far (p := ⟨b (prv n j), 3, none⟩) ne2 t).cell]; rfl
        have g5 : ∀ u t v, (((wc.setCell ⟨b (prv n j), 0, none⟩ u).setCell ⟨b (prv n j), 3, none⟩ t).setCell ⟨b (nxt n (nxt n j)), 2, none⟩ v).cell? ⟨p, 1, none⟩ = some (.int .i64 n) := fun u t v => by
          rw [(((hH.far (p := ⟨b (prv n j), 0, none⟩) np1 u).far (p := ⟨b (prv n j), 3, none⟩) np1 t).far (p := ⟨b (nxt n (nxt n j)), 2, none⟩) np3 v).cell]; rfl
        have f2 : wc.frozen? ⟨b (prv n j), 3, none⟩ = false := (hN.node _ lp).frozen 3
        have f3 : wc.frozen? ⟨b (nxt n (nxt n j)), 2, none⟩ = false := (hN.node _ lnn).frozen 2
        have f4 : wc.frozen? ⟨p, 1, none⟩ = false := hH.frozen 1
        clear np ne1 ne2 ne3 np1 np2 np3
        go_region
        go_wp2
        go_end0
        have R := crimp_ring hN hH h4 hi HS.out
        have e : ((n - 2 : Nat) : Int) = (n : Int) - 2 := by omega
        rw [e] at R
        refine ⟨rfl, R.drew, ?_⟩
        have hb1 := hBb _ lp
        have hb2 := hBb _ lnn
        exact ((((hbel.setCell (p := ⟨b (prv n j), 0, none⟩) hb1 _).setCell (p := ⟨b (prv n j), 3, none⟩) hb1 _).setCell (p := ⟨b (nxt n (nxt n j)), 2, none⟩) hb2 _).setCell (p := ⟨p, 1, none⟩) hB _).drew
end Go.Proofs.YtkdlipbegdiaaaaGreatDoor
namespace Go.Proofs.YtkdlipbegdiaaaaGreatDoor
open Go.RowKit
theorem Ring.push {w : World} {p k : Nat} {b : Nat → Nat} {x : Nat → Int} {f : Nat → Nat} (h : Ring w p k b x f) (hk : 1 ≤ k) (hb : b k = w.heap.size) :
    Ring ((((w.alloc (.cells #[.int .i64 (x k), .int .u8 (f k), ptr (b (k - 1)), ptr (b 0)] 183)).setCell ⟨b (k - 1), 3, none⟩ (ptr (b k))).setCell ⟨b 0, 2, none⟩ (ptr (b k))).setCell ⟨p, 1, none⟩ (.int .i64 ((k + 1 : Nat) : Int))) p (k + 1) b x f := by
  have lt : ∀ j, j < k → b j < w.heap.size := fun j hj => (h.node j hj).lt
  have np : ∀ j, j < k → p ≠ b j := fun k hk => Blk.ne_ h.head (h.node k hk) (by decide)
  have npk : p ≠ b k := fun e => by have := h.head.lt; omega
  refine ⟨?_, fun j hj => ?_, fun i j hi hj e => ?_⟩
  · exact (((h.head.alloc _).far (p := ⟨b (k - 1), 3, none⟩) (np _ (by omega)) _).far (p := ⟨b 0, 2, none⟩) (np _ (by omega)) _).set_ 1 _
  · by_cases hjk : j = k
    · subst hjk
      have h0 : Blk (w.alloc (.cells #[.int .i64 (x j), .int .u8 (f j), ptr (b (j - 1)), ptr (b 0)] 183)) (b j) 183 #[.int .i64 (x j), .int .u8 (f j), ptr (b (j - 1)), ptr (b 0)] := by rw [hb]; exact Blk.new w _ _
      have e1 := lt (j - 1) (by omega)
      have e2 := lt 0 (by omega)
      have h1 := ((h0.far (p := ⟨b (j - 1), 3, none⟩) (by show b j ≠ b (j - 1); omega) (ptr (b j))).far (p := ⟨b 0, 2, none⟩) (by show b j ≠ b 0; omega) (ptr (b j))).far (p := ⟨p, 1, none⟩) (fun e => npk e.symm) (.int .i64 ((j + 1 : Nat) : Int))
      unfold nodeCells
      rw [show prv (j + 1) j = j - 1 by unfold prv; split <;> omega, show nxt (j + 1) j = 0 by unfold nxt; rw [if_pos rfl]]
      exact h1
    · have hj' : j < k := by omega
      have h0 := (h.node j hj').alloc (.cells #[.int .i64 (x k), .int .u8 (f k), ptr (b (k - 1)), ptr (b 0)] 183)
      have e1 : prv (k + 1) j = if j = 0 then k else prv k j := by unfold prv; split <;> simp
      have e2 : nxt (k + 1) j = if j = k - 1 then k else nxt k j := by unfold nxt; repeat' split
                                                                       all_goals omega
      unfold nodeCells
      rw [e1, e2]
      unfold nodeCells at h0
      refine Blk.far (p := ⟨p, 1, none⟩) ?_ (fun e => np j hj' e.symm) _
      by_cases z1 : j = k - 1
      · rw [if_pos z1]
        rw [← z1]
        have h1 := h0.set_ 3 (ptr (b k))
        rw [z1] at h1
        rw [← z1] at h1
        by_cases z2 : j = 0
        · rw [if_pos z2]
          have h2 := h1.set_ 2 (ptr (b k))
          subst z2
          exact h2
        · rw [if_neg z2]
          exact h1.far (p := ⟨b 0, 2, none⟩) (fun e => z2 (h.inj _ _ hj' (by omega) e)) _
      · rw [if_neg z1]
        have h1 := h0.far (p := ⟨b (k - 1), 3, none⟩) (fun e => z1 (h.inj _ _ hj' (by omega) e)) (ptr (b k))
        by_cases z2 : j = 0
        · rw [if_pos z2]
          have h2 := h1.set_ 2 (ptr (b k))
          subst z2
          exact h2
        · rw [if_neg z2]
          exact h1.far (p := ⟨b 0, 2, none⟩) (fun e => z2 (h.inj _ _ hj' (by omega) e)) _
  · by_cases hik : i = k
    · by_cases hjk : j = k
      · omega
      · have := lt j (by omega); rw [hik] at e; omega
    · by_cases hjk : j = k
      · have := lt i (by omega); rw [hjk] at e; omega
      · exact h.inj i j (by omega) (by omega) e
theorem Ring.one {w : World} {p : Nat} {b : Nat → Nat} {x : Nat → Int} {f : Nat → Nat} (hb : b 0 = w.heap.size) (h : Blk w p 181 #[.pointer none, .int .i64 0]) :
    Ring (((w.alloc (.cells #[.int .i64 (x 0), .int .u8 (f 0), ptr (b 0), ptr (b 0)] 183)).setCell ⟨p, 0, none⟩ (ptr (b 0))).setCell ⟨p, 1, none⟩ (.int .i64 1)) p 1 b x f := by
  have npk : b 0 ≠ p := fun e => by have := h.lt; omega
  refine ⟨((h.alloc _).set_ 0 _).set_ 1 _, fun j hj => ?_, fun i j hi hj _ => by omega⟩
  obtain rfl : j = 0 := by omega
  have h0 : Blk (w.alloc (.cells #[.int .i64 (x 0), .int .u8 (f 0), ptr (b 0), ptr (b 0)] 183)) (b 0) 183 #[.int .i64 (x 0), .int .u8 (f 0), ptr (b 0), ptr (b 0)] := by
    rw [hb]; exact Blk.new w _ _
  exact (h0.far (p := ⟨p, 0, none⟩) npk _).far (p := ⟨p, 1, none⟩) npk _
theorem Ring.cast {w : World} {p n m : Nat} {b : Nat → Nat} {x : Nat → Int} {f : Nat → Nat} (h : Ring w p n b x f) (e : n = m) : Ring w p m b x f := e ▸ h
/-- the byte k of a text -/
def byteAt (s : ByteArray) (k : Nat) : Nat := (s.data.toList.getD k 0).toNat
theorem byteAt_eq (s : ByteArray) (k : Nat) (h : k < s.size) : byteAt s k = s[k].toNat := by
  unfold byteAt
  have : k < s.data.toList.length := by simpa using h
  rw [List.getD_eq_getElem?_getD, List.getElem?_eq_getElem this]
  rfl
theorem byteAt_lt (s : ByteArray) (k : Nat) : byteAt s k < 256 := UInt8.toNat_lt _
def angleAt (xs : List Int) (k : Nat) : Int := xs.getD k 0
theorem angle_of {xs r : List Int} {k : Nat} {y : Int} (h : xs.drop k = y :: r) : angleAt xs k = y := by
  unfold angleAt
  have : (xs.drop k)[0]? = some y := by rw [h]; rfl
  rw [List.getElem?_drop] at this
  rw [List.getD_eq_getElem?_getD]
  simp only [Nat.add_zero] at this
  rw [this]; rfl
set_option maxHeartbeats 2000000 in
set_option maxRecDepth 100000 in
theorem newRing_any (w : World) (A : Option Addr) (cap : Nat) (xs : List Int) (s : ByteArray) (h : Ints w A xs) (hn0 : 0 < xs.length) (hn : xs.length ≤ 100) (hs : xs.length ≤ s.size) (hs2 : s.size ≤ 1000000) :
    Calls Tryz.prog 153 #[.slice A xs.length cap, .string s] w fun e w' => e = .returned (ptr w.heap.size) ∧ Ring w' w.heap.size xs.length (fun k => w.heap.size + 1 + k) (angleAt xs) (byteAt s) ∧ Below w.heap.size w w' := by
  obtain ⟨b, hbk⟩ : ∃ b : Nat → Nat, ∀ k, b k = w.heap.size + 1 + k := ⟨fun k => w.heap.size + 1 + k, fun _ => rfl⟩
  have eb0 : (fun k => w.heap.size + 1 + k) = b := funext fun k => (hbk k).symm
  rw [eb0]
  clear eb0
  have BK := Lib.hid hbk
  clear hbk
  go_enter Tryz.func153, Tryz.ntmps153
  go_wp2
  go_loopg [14] (xs.length + 1) (fun g s14 wr => ∃ k, k ≤ xs.length ∧ s14 = .int .i64 k ∧ xs.length - k < g ∧ Below w.heap.size w wr ∧ wr.heap.size = w.heap.size + 1 + k ∧
      (k = 0 → Blk wr w.heap.size 181 #[.pointer none, .int .i64 0]) ∧ (1 ≤ k → Ring wr w.heap.size k b (angleAt xs) (byteAt s)))
  case atStart => exact ⟨0, by omega, rfl, by omega, (Below.refl _ _).alloc (Nat.le_refl _) _, by simp, fun _ => Blk.new w _ _, fun h => by omega⟩
  case round =>
    obtain ⟨k, hk, rfl, hg, hbel, hz, h0, h1⟩ := hrel
    have HZ := Lib.hid hz; clear hz
    cases gk with
    | zero => omega
    | succ g =>
    have hI := h.below hbel
    by_cases hlt : k < xs.length
    · obtain ⟨bb, off, y, rfl, hbb, HY, hc, hm⟩ := hI.at_ hlt
      have eb : byteAt s k = s[k].toNat := byteAt_eq s k (by omega)
      have HB := Lib.hid eb; clear eb
      by_cases z : k = 0
      · have R := h0 z
        clear h0 h1
        have F0 : ∀ o, (wr.alloc o).cell? ⟨w.heap.size, 0, none⟩ = some (.pointer none) := fun o => by rw [(R.alloc o).cell]; rfl
        have F1 : ∀ o u, ((wr.alloc o).setCell ⟨w.heap.size, 0, none⟩ u).cell? ⟨w.heap.size, 1, none⟩ = some (.int .i64 0) := fun o u => by rw [((R.alloc o).set_ 0 u).cell]; rfl
        have G0 : ∀ o, (wr.alloc o).frozen? ⟨w.heap.size, 0, none⟩ = false := fun o => (R.alloc o).frozen 0
        have G1 : ∀ o, (wr.alloc o).frozen? ⟨w.heap.size, 1, none⟩ = false := fun o => (R.alloc o).frozen 1
        have eb0 : b 0 = wr.heap.size := (BK.out 0).trans (by rw [HZ.out, z])
        have O : Ring _ w.heap.size 1 b (angleAt xs) (byteAt s) := Ring.one eb0 R
        have HO := Lib.hid O
        have E0 := Lib.hid eb0
        have Z := Lib.hid z
        clear O eb0 z
        go_wp2
        have O2 := HO.out
        have ea := angle_of HY.out
        have z := Z.out
        have ebb : byteAt s 0 = s[k].toNat := by rw [← HB.out, z]
        rw [z] at ea
        rw [ea, ebb, E0.out] at O2
        have hsz := hbel.size
        go_roundg g
        case measure => omega
        case rel => exact ⟨k + 1, by omega, by go_num, by omega, ((hbel.alloc hsz _).setCell (p := ⟨w.heap.size, 0, none⟩) (Nat.le_refl _) _).setCell (p := ⟨w.heap.size, 1, none⟩) (Nat.le_refl _) _, by simp only [World.size_alloc, World.size_setCell]; have := HZ.out; omega, fun h => by omega, fun _ => O2.cast (by omega)⟩
      · have R := h1 (by omega)
        clear h0 h1
        have np : ∀ j, j < k → w.heap.size ≠ b j := fun j hj => Blk.ne_ R.head (R.node j hj) (by decide)
        have i0 : 0 < k := by omega
        have i1 : k - 1 < k := by omega
        have np0 := np _ i0
        have np1 := np _ i1
        have F0 : ∀ o, (wr.alloc o).cell? ⟨w.heap.size, 0, none⟩ = some (ptr (b 0)) := fun o => by rw [(R.head.alloc o).cell]; rfl
        have F1 : ∀ o, (wr.alloc o).cell? ⟨b 0, 2, none⟩ = some (ptr (b (k - 1))) := fun o => by rw [((R.node 0 i0).alloc o).cell]; rfl
        have F2 : ∀ o, (wr.alloc o).cell? ⟨b (k - 1), 3, none⟩ = some (ptr (b (nxt k (k - 1)))) := fun o => by rw [((R.node _ i1).alloc o).cell]; rfl
        have F3 : ∀ o u, ((wr.alloc o).setCell ⟨b (k - 1), 3, none⟩ u).cell? ⟨b 0, 2, none⟩ = some (ptr (b (k - 1))) := fun o u => by
          by_cases e : b 0 = b (k - 1)
          · have h2 := ((R.node 0 i0).alloc o).set_ 3 u
            have h3 : ((wr.alloc o).setCell ⟨b 0, 3, none⟩ u).cell? ⟨b 0, 2, none⟩ = some (ptr (b (k - 1))) := by rw [h2.cell]; rfl
            have e4 : (⟨b (k - 1), 3, none⟩ : Addr) = ⟨b 0, 3, none⟩ := by rw [e]
            rw [e4]
            exact h3
          · rw [(((R.node 0 i0).alloc o).far (p := ⟨b (k - 1), 3, none⟩) e u).cell]; rfl
        have F4 : ∀ o u v, (((wr.alloc o).setCell ⟨b (k - 1), 3, none⟩ u).setCell ⟨b 0, 2, none⟩ v).cell? ⟨w.heap.size, 1, none⟩ = some (.int .i64 k) := fun o u v => by
          rw [(((R.head.alloc o).far (p := ⟨b (k - 1), 3, none⟩) np1 u).far (p := ⟨b 0, 2, none⟩) np0 v).cell]; rfl
        have G0 : ∀ o, (wr.alloc o).frozen? ⟨b (k - 1), 3, none⟩ = false := fun o => ((R.node _ i1).alloc o).frozen 3
        have G1 : ∀ o, (wr.alloc o).frozen? ⟨b 0, 2, none⟩ = false := fun o => ((R.node _ i0).alloc o).frozen 2
        have G2 : ∀ o, (wr.alloc o).frozen? ⟨w.heap.size, 1, none⟩ = false := fun o => (R.head.alloc o).frozen 1
        have O := R.push (by omega) ((BK.out k).trans HZ.out.symm)
        have HO := Lib.hid O
        clear O np
        go_wp2
        have O2 := HO.out
        rw [angle_of HY.out, HB.out, (BK.out k).trans HZ.out.symm] at O2
        have e5 : ((k + 1 : Nat) : Int) = (k : Int) + 1 := by omega
        rw [e5] at O2
        have b0 := BK.out 0
        have b1 := BK.out (k - 1)
        have hsz := hbel.size
        go_roundg g
        case measure => omega
        case rel => exact ⟨k + 1, by omega, by go_num, by omega, (((hbel.alloc hsz _).setCell (p := ⟨b (k - 1), 3, none⟩) (by show _ ≤ b (k - 1); omega) _).setCell (p := ⟨b 0, 2, none⟩) (by show _ ≤ b 0; omega) _).setCell (p := ⟨w.heap.size, 1, none⟩) (Nat.le_refl _) _, by simp only [World.size_alloc, World.size_setCell]; have := HZ.out; omega, fun h => by omega, fun _ => O2⟩
    · obtain rfl : k = xs.length := by omega
      have R := h1 (by omega)
      clear h0 h1
      go_wp2
      go_ret
      exact ⟨rfl, R, hbel⟩
end Go.Proofs.YtkdlipbegdiaaaaGreatDoor
namespace Go.Proofs.YtkdlipbegdiaaaaGreatDoor
open Go.RowKit
theorem cast_beq (a b : Nat) : ((a : Int) == (b : Int)) = decide (a = b) := by
  rw [Bool.eq_iff_iff]; simp; omega
def firstC (n : Nat) (x : Nat → Int) (f : Nat → Nat) : Option Nat := ((List.range n).filter (allowedB n x f)).head?
def foldsN : Nat → Nat → (Nat → Int) → (Nat → Nat) → Bool
  | 0, _, _, _ => false
  | g + 1, n, x, f => match firstC n x f with
    | none => decide (n = 2) && (decide (x 0 = x 1) && decide (f 0 = f 1))
    | some i => foldsN g (n - 2) (crimpX n x i) (fun k => f (sig n i k))
theorem crimps_none {n : Nat} {x : Nat → Int} {f : Nat → Nat} (h : firstC n x f = none) : crimpsTo n x f n = [] := by
  unfold firstC at h
  rw [List.head?_eq_none_iff] at h
  simp [crimpsTo, h]
theorem crimps_some {n i : Nat} {x : Nat → Int} {f : Nat → Nat} (h : firstC n x f = some i) : (∃ r, crimpsTo n x f n = (i : Int) :: r) ∧ i < n ∧ 4 ≤ n := by
  unfold firstC at h
  obtain ⟨r, hr⟩ : ∃ r, (List.range n).filter (allowedB n x f) = i :: r := by
    cases hl : (List.range n).filter (allowedB n x f) with
    | nil => rw [hl] at h; cases h
    | cons a l => rw [hl] at h; injection h with h; subst h; exact ⟨l, rfl⟩
  have hm : i ∈ (List.range n).filter (allowedB n x f) := by rw [hr]; simp
  rw [List.mem_filter, List.mem_range] at hm
  refine ⟨⟨r.map Int.ofNat, by unfold crimpsTo; rw [hr]; rfl⟩, hm.1, ?_⟩
  have := hm.2
  unfold allowedB at this
  by_cases h4 : n < 4
  · rw [if_pos h4] at this; cases this
  · omega
theorem crimpX_bd {n i : Nat} {x : Nat → Int} {M : Int} (hn : 4 ≤ n) (hi : i < n) (h : ∀ k, k < n → -M ≤ x k ∧ x k ≤ M) (_h0 : 0 ≤ M) : ∀ k, k < n - 2 → -(3 * M) ≤ crimpX n x i k ∧ crimpX n x i k ≤ 3 * M := by
  intro k hk
  have h1 := h _ (prv_lt hi)
  have h2 := h _ (nxt_lt hi)
  have h3 := h _ hi
  have h4 := h _ (sig_lt hn hi hk).1
  unfold crimpX
  split <;> omega
set_option maxHeartbeats 2000000 in
set_option maxRecDepth 100000 in
theorem foldsDown_any (w : World) (B p n0 : Nat) (b0 : Nat → Nat) (x0 : Nat → Int) (f0 : Nat → Nat) (h : Ring w p n0 b0 x0 f0) (hn2 : 2 ≤ n0) (hn : n0 ≤ 10) (hf : ∀ k, f0 k < 256)
    (hx : ∀ k, k < n0 → -1000 ≤ x0 k ∧ x0 k ≤ 1000) (hB : B ≤ p) (hBb : ∀ k, k < n0 → B ≤ b0 k) (hBw : B ≤ w.heap.size) :
    Calls Tryz.prog 154 #[ptr p] w fun e w' => e = .returned (.bool (foldsN 10 n0 x0 f0)) ∧ Below B w w' := by
  go_enter Tryz.func154, Tryz.ntmps154
  go_wp2_with (fail)
  go_loopg [3] 10 (fun g s3 wr => ∃ n b x f M, 2 ≤ n ∧ n ≤ 10 ∧ n ≤ 2 * g ∧ Ring wr p n b x f ∧ (∀ k, f k < 256) ∧ Below B w wr ∧ (∀ k, k < n → B ≤ b k) ∧ (∀ k, k < n → -M ≤ x k ∧ x k ≤ M) ∧ 0 ≤ M ∧
    M * 3 ^ (n / 2) ≤ 243000 ∧ Hid (foldsN 10 n0 x0 f0 = foldsN g n x f))
  case atStart => exact ⟨n0, b0, x0, f0, 1000, hn2, hn, by omega, h, hf, Below.refl _ _, hBb, hx, by omega, by
    have : n0 / 2 ≤ 5 := by omega
    have h3 : (3 : Int) ^ (n0 / 2) ≤ 3 ^ 5 := by
      obtain h | h | h | h | h | h : n0 / 2 = 0 ∨ n0 / 2 = 1 ∨ n0 / 2 = 2 ∨ n0 / 2 = 3 ∨ n0 / 2 = 4 ∨ n0 / 2 = 5 := by omega
      all_goals rw [h]; decide
    omega, rfl⟩
  case round =>
    obtain ⟨n, b, x, f, M, hn2, hn10, hg, R, hf, hbel, hBb, hx, hM, hM2, H⟩ := hrel
    cases gk with
    | zero => omega
    | succ g =>
    go_wp2_with (fail)
    refine (crimps_any wr p n b x f R (by omega) (by omega) hf).mono ?_
    rintro e w1 ⟨v, rfl, hown, hb1⟩
    have R1 := R.below hb1
    cases hc : firstC n x f with
    | none =>
      have HC := Lib.hid hc
      rw [crimps_none hc] at hown
      clear hc
      obtain ⟨A, c, rfl, hI, _, _⟩ := hown.form
      have c1 := R1.many
      have c2 := R1.first
      have c3 := R1.next (k := 0) (by omega)
      by_cases z : n = 2
      · have e3 : nxt n 0 = 1 := by unfold nxt; rw [z]; rfl
        rw [e3] at c3
        have c4 := R1.angle (k := 0) (by omega)
        have c5 := R1.angle (k := 1) (by omega)
        have c6 := R1.fold (k := 0) (by omega)
        have c7 := R1.fold (k := 1) (by omega)
        have hz : ((n : Int) != 2) = false := by simp; omega
        have Z := Lib.hid z
        clear z e3
        by_cases hq : x 0 = x 1
        · have hqd : (x 0 == x 1) = true := by simp [hq]
          have Q := Lib.hid hq
          clear hq
          go_wp2
          go_quiet (fail)
          go_wp2
          go_quiet (fail)
          go_wp2
          go_ret
          exact ⟨ret_bool (by rw [H.out, foldsN, HC.out]; simp [Z.out, Q.out, cast_beq]), below_drewN (below_drewN (below_from hbel hb1 (Nat.le_trans hBw hbel.size)) _) _⟩
        · have hqd : (x 0 == x 1) = false := by simp [hq]
          have Q := Lib.hid hq
          clear hq
          go_wp2
          go_quiet (fail)
          go_wp2
          go_quiet (fail)
          go_wp2
          go_ret
          exact ⟨ret_bool (by rw [H.out, foldsN, HC.out]; simp [Q.out]), below_drewN (below_drewN (below_from hbel hb1 (Nat.le_trans hBw hbel.size)) _) _⟩
      · have hz : ((n : Int) != 2) = true := by rw [bne_iff_ne]; omega
        have Z := Lib.hid z
        clear z
        go_wp2
        go_ret
        exact ⟨ret_bool (by rw [H.out, foldsN, HC.out]; simp [Z.out]), below_from hbel hb1 (Nat.le_trans hBw hbel.size)⟩
    | some i =>
      obtain ⟨⟨r, hr⟩, hin, h4⟩ := crimps_some hc
      have HC := Lib.hid hc
      rw [hr] at hown
      clear hc hr
      obtain ⟨A, c, rfl, hI, hcap, _⟩ := hown.form
      obtain ⟨bb, off, y, rfl, hbb, HY, hcell, _⟩ := hI.at_ (k := 0) (by simp)
      have hy : y = (i : Int) := by have := HY.out; simp at this; exact this.symm
      subst hy
      rw [Nat.add_zero] at hcell
      rw [List.length_cons] at *
      clear hI hown HY
      have hM0 : M * 3 ^ (n / 2) ≤ 243000 := hM2
      have hpow : (3 : Int) ^ (n / 2) = 3 * 3 ^ ((n - 2) / 2) := by
        have : n / 2 = (n - 2) / 2 + 1 := by omega
        rw [this, Int.pow_succ]; omega
      have hpos : (1 : Int) ≤ 3 ^ (n / 2) := by
        obtain h | h | h | h | h | h : n / 2 = 0 ∨ n / 2 = 1 ∨ n / 2 = 2 ∨ n / 2 = 3 ∨ n / 2 = 4 ∨ n / 2 = 5 := by omega
        all_goals rw [h]; decide
      have hMle : M ≤ 243000 := Int.le_trans (by simpa using Int.mul_le_mul_of_nonneg_left hpos hM) hM2
      have hpM : 3 * M * 3 ^ ((n - 2) / 2) ≤ 243000 := by rw [hpow] at hM2; rw [Int.mul_comm 3 M, Int.mul_assoc]; exact hM2
      have HP := Lib.hid hpM
      clear hM2 hM0 hpow hpos hpM
      go_wp2_with (fail)
      refine (crimp_any w1 B p n b x f i R1 hin h4 (by omega) (fun k hk => by have := hx k hk; omega) hB hBb).mono ?_
      rintro e w2 ⟨rfl, R2, hb2⟩
      go_wp2_with (fail)
      go_roundg g
      case measure => omega
      case rel => exact ⟨n - 2, _, _, _, 3 * M, by omega, by omega, by omega, R2, fun k => hf _, ((below_from hbel hb1 (Nat.le_trans hBw hbel.size))).trans hb2, fun k hk => hBb _ (sig_lt h4 hin hk).1, crimpX_bd h4 hin hx hM, by omega, HP.out, H.out.trans (by rw [foldsN, HC.out])⟩
end Go.Proofs.YtkdlipbegdiaaaaGreatDoor
