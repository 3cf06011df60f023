/- The walk of the program's 'crimp': an allowed index, small angles. -/
import Derived.Test.YtngpeehjjcgmmaaRingC
namespace Go.Proofs.Ytngpeehjjcgmmaa
open Go.RowKit

theorem run_eql_crease {w : World} {n : Nat} {b : Nat → Nat} {x : Nat → Int} {f : Nat → Nat} (h : Nodes w n b x f) {i j : Nat} (hi : i < n) (hj : j < n) :
    (binOp .eql 55 (ptr (b i)) (ptr (b j))).run Try.prog w = .ok (.bool (decide (i = j))) w := by
  obtain ⟨j0, ij0, sj0⟩ := creaseInfo
  by_cases e : i = j
  · subst e
    rw [run_eql_ptr_same (P := Try.prog) w ⟨b i, 0, none⟩ Try.underlying55 ij0]; simp
  · rw [run_eql_ptr_other (P := Try.prog) w (a := ⟨b i, 0, none⟩) (b := ⟨b j, 0, none⟩) Try.underlying55 ij0 sj0 (by intro h2; injection h2 with h2; exact e (h.inj _ _ hi hj h2)) (h.node i hi) (h.node j hj)]
    simp [e]

section
variable {w w' : World} {p n : Nat} {b : Nat → Nat} {x : Nat → Int} {f : Nat → Nat}
theorem Ring.drew (h : Ring w p n b x f) : Ring w.drew p n b x f := ⟨h.head, h.node, h.inj⟩
theorem Nodes.angle (h : Nodes w n b x f) {k : Nat} (hk : k < n) : w.cell? ⟨b k, 0, none⟩ = some (.int .i64 (x k)) := by rw [(h.node k hk).cell]; rfl
theorem Nodes.prev (h : Nodes w n b x f) {k : Nat} (hk : k < n) : w.cell? ⟨b k, 2, none⟩ = some (ptr (b (prv n k))) := by rw [(h.node k hk).cell]; rfl
theorem Nodes.next (h : Nodes w n b x f) {k : Nat} (hk : k < n) : w.cell? ⟨b k, 3, none⟩ = some (ptr (b (nxt n k))) := by rw [(h.node k hk).cell]; rfl
end

set_option maxHeartbeats 2000000 in
set_option maxRecDepth 100000 in
theorem crimp_any (w : World) (B p n : Nat) (b : Nat → Nat) (x : Nat → Int) (f : Nat → Nat) (i : Nat) (h : Ring w p n b x f) (hi : i < n) (h4 : 4 ≤ n) (hn : n ≤ 100)
    (hx : ∀ k, k < n → -1000000 ≤ x k ∧ x k ≤ 1000000) (hB : B ≤ p) (hBb : ∀ k, k < n → B ≤ b k) :
    Calls Try.prog 44 #[ptr p, .int .i64 i] w fun e w' => e = .returned (.tuple #[]) ∧ Ring w' p (n - 2) (fun k => b (sig n i k)) (crimpX n x i) (fun k => f (sig n i k)) ∧ Below B w w' := by
  have c1 := h.first
  go_enter Try.func44, Try.ntmps44
  go_wp2
  go_loopg [1, 4] (i + 1) (fun g s1 s4 wr => w = wr ∧ ∃ j, j ≤ i ∧ s1 = .int .i64 ((i - j : Nat) : Int) ∧ s4 = ptr (b j) ∧ i - j < g)
  case atStart => exact ⟨rfl, 0, by omega, rfl, rfl, by omega⟩
  case round =>
    obtain ⟨rfl, j, hj, rfl, rfl, hg⟩ := hrel
    cases gk with
    | zero => omega
    | succ g =>
    by_cases hlt : j < i
    · have d1 := h.next (k := j) (by omega)
      have e1 : nxt n j = j + 1 := by unfold nxt; rw [if_neg (by omega)]
      rw [e1] at d1
      clear e1
      have e2 : ((i - j : Nat) : Int) = (i : Int) - j := by omega
      rw [e2]
      clear e2
      go_wp2
      go_roundg g
      case measure => omega
      case rel => exact ⟨rfl, j + 1, by omega, by congr 1; omega, rfl, by omega⟩
    · obtain rfl : j = i := by omega
      have e2 : ((j - j : Nat) : Int) = 0 := by omega
      rw [e2]
      clear e2
      have d1 := h.next hi
      have d2 := h.prev hi
      go_wp2
      go_quiet (fail)
      have np : ∀ k, k < n → p ≠ b k := fun k hk => Blk.ne_ h.head (h.node k hk) (by decide)
      have hN : ∀ v, Nodes ((w.setCell ⟨p, 0, none⟩ v).drewN nq) n b x f := fun v => ⟨fun k hk => (h.node k hk).far (p := ⟨p, 0, none⟩) (fun e => np k hk e.symm) v, h.inj⟩
      have hH : ∀ v, Blk ((w.setCell ⟨p, 0, none⟩ v).drewN nq) p 57 #[v, .int .i64 n] := fun v => h.head.set_ 0 v
      have hBel : ∀ v, Below B w ((w.setCell ⟨p, 0, none⟩ v).drewN nq) := fun v => below_drewN ((Below.refl B w).setCell (p := ⟨p, 0, none⟩) hB v) nq
      have AL := Lib.hid (And.intro hN (And.intro hH hBel))
      clear hN hH hBel np
      have fp : (w.drewN nq).frozen? ⟨p, 0, none⟩ = false := h.head.frozen 0
      have q1 := run_eql_crease (h.drewN nq).nodes hi (j := 0) (by omega)
      have q2 := run_eql_crease (h.drewN nq).nodes (nxt_lt hi) (j := 0) (by omega)
      go_upto_region 5 with (fail)
      go_cut [40] (fun s40 wc => s40 = .bool (decide (j = 0 ∨ nxt n j = 0)) ∧ w.drewN nq = wc)
      case first =>
        by_cases z1 : j = 0
        · rw [decide_eq_true z1] at q1
          have Z1 := Lib.hid z1; clear z1
          go_wp2
          go_meet
          case rel => exact ⟨by rw [decide_eq_true (Or.inl Z1.out)], rfl⟩
        · rw [decide_eq_false z1] at q1
          have Z1 := Lib.hid z1; clear z1
          by_cases z2 : nxt n j = 0
          · rw [decide_eq_true z2] at q2
            have Z2 := Lib.hid z2; clear z2
            go_wp2
            go_meet
            case rel => exact ⟨by rw [decide_eq_true (Or.inr Z2.out)], rfl⟩
          · rw [decide_eq_false z2] at q2
            have Z2 := Lib.hid z2; clear z2
            go_wp2
            go_meet
            case rel => exact ⟨by rw [decide_eq_false (fun e => e.elim Z1.out Z2.out)], rfl⟩
      case rest =>
      obtain ⟨rfl, rfl⟩ := hcut
      clear q1 q2
      go_upto_if 40 with (fail)
      go_cut [] (fun wc => ∃ s, Hid (s = if j = 0 ∨ nxt n j = 0 then prv n j else 0) ∧ Nodes wc n b x f ∧ Blk wc p 57 #[ptr (b s), .int .i64 n] ∧ Below B w wc)
      case first =>
        by_cases z1 : j = 0 ∨ nxt n j = 0
        · rw [decide_eq_true z1]
          have Z1 := Lib.hid z1; clear z1
          go_wp2
          go_meet
          case rel => exact ⟨prv n j, by show _ = _; rw [if_pos Z1.out], AL.out.1 _, AL.out.2.1 _, AL.out.2.2 _⟩
        · rw [decide_eq_false z1]
          have Z1 := Lib.hid z1; clear z1
          go_wp2
          go_meet
          case rel => exact ⟨0, by show _ = _; rw [if_neg Z1.out], (h.drewN nq).nodes, (h.drewN nq).head, below_drewN (Below.refl B w) nq⟩
      case rest =>
        obtain ⟨s, HS, hN, hH, hbel⟩ := hcut
        have a1 := hN.angle (prv_lt hi)
        have a2 := hN.angle (nxt_lt hi)
        have a3 := hN.angle hi
        have f1 : wc.frozen? ⟨b (prv n j), 0, none⟩ = false := (hN.node _ (prv_lt hi)).frozen 0
        obtain ⟨x1, x2⟩ := hx _ (prv_lt hi)
        obtain ⟨x3, x4⟩ := hx _ (nxt_lt hi)
        obtain ⟨x5, x6⟩ := hx _ hi
        clear hx d1 d2 c1 AL fp
        go_wp2
        have np : ∀ k, k < n → p ≠ b k := fun k hk => Blk.ne_ hH (hN.node k hk) (by decide)
        have lp := prv_lt hi
        have ln := nxt_lt hi
        have lnn := nxt_lt ln
        have ne1 : b (nxt n j) ≠ b (prv n j) := fun e => by
          have := hN.inj _ _ ln lp e
          revert this; unfold nxt prv; repeat' split
          all_goals omega
        have ne2 : b (nxt n (nxt n j)) ≠ b (prv n j) := fun e => nn_ne h4 hi (hN.inj _ _ lnn lp e)
        have ne3 : b (nxt n (nxt n j)) ≠ b (nxt n j) := fun e => by
          have := hN.inj _ _ lnn ln e
          revert this; unfold nxt; repeat' split
          all_goals omega
        have np1 := np _ lp
        have np2 := np _ ln
        have np3 := np _ lnn
        have g1 : ∀ u, (wc.setCell ⟨b (prv n j), 0, none⟩ u).cell? ⟨b (nxt n j), 3, none⟩ = some (ptr (b (nxt n (nxt n j)))) := fun u => by
          rw [((hN.node _ ln).far (p := ⟨b (prv n j), 0, none⟩) ne1 u).cell]; rfl
        have g2 : ∀ u, (wc.setCell ⟨b (prv n j), 0, none⟩ u).cell? ⟨b (prv n j), 3, none⟩ = some (ptr (b (nxt n (prv n j)))) := fun u => by
          rw [((hN.node _ lp).set_ 0 u).cell]; rfl
        have g3 : ∀ u t, ((wc.setCell ⟨b (prv n j), 0, none⟩ u).setCell ⟨b (prv n j), 3, none⟩ t).cell? ⟨b (nxt n j), 3, none⟩ = some (ptr (b (nxt n (nxt n j)))) := fun u t => by
          rw [(((hN.node _ ln).far (p := ⟨b (prv n j), 0, none⟩) ne1 u).far (p := ⟨b (prv n j), 3, none⟩) ne1 t).cell]; rfl
        have g4 : ∀ u t, ((wc.setCell ⟨b (prv n j), 0, none⟩ u).setCell ⟨b (prv n j), 3, none⟩ t).cell? ⟨b (nxt n (nxt n j)), 2, none⟩ = some (ptr (b (prv n (nxt n (nxt n j))))) := fun u t => by
          rw [(((hN.node _ lnn).far (p := ⟨b (prv n j), 0, none⟩) ne2 u).far (p := ⟨b (prv n j), 3, none⟩) ne2 t).cell]; rfl
        have g5 : ∀ u t v, (((wc.setCell ⟨b (prv n j), 0, none⟩ u).setCell ⟨b (prv n j), 3, none⟩ t).setCell ⟨b (nxt n (nxt n j)), 2, none⟩ v).cell? ⟨p, 1, none⟩ = some (.int .i64 n) := fun u t v => by
          rw [(((hH.far (p := ⟨b (prv n j), 0, none⟩) np1 u).far (p := ⟨b (prv n j), 3, none⟩) np1 t).far (p := ⟨b (nxt n (nxt n j)), 2, none⟩) np3 v).cell]; rfl
        have f2 : wc.frozen? ⟨b (prv n j), 3, none⟩ = false := (hN.node _ lp).frozen 3
        have f3 : wc.frozen? ⟨b (nxt n (nxt n j)), 2, none⟩ = false := (hN.node _ lnn).frozen 2
        have f4 : wc.frozen? ⟨p, 1, none⟩ = false := hH.frozen 1
        clear np ne1 ne2 ne3 np1 np2 np3
        go_region
        go_wp2
        go_end0
        have R := crimp_ring hN hH h4 hi HS.out
        have e : ((n - 2 : Nat) : Int) = (n : Int) - 2 := by omega
        rw [e] at R
        refine ⟨rfl, R.drew, ?_⟩
        have hb1 := hBb _ lp
        have hb2 := hBb _ lnn
        exact ((((hbel.setCell (p := ⟨b (prv n j), 0, none⟩) hb1 _).setCell (p := ⟨b (prv n j), 3, none⟩) hb1 _).setCell (p := ⟨b (nxt n (nxt n j)), 2, none⟩) hb2 _).setCell (p := ⟨p, 1, none⟩) hB _).drew

end Go.Proofs.Ytngpeehjjcgmmaa
