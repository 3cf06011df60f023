/- The program's 'crimp' on a ring of linked creases: the ring that is left. No condition. -/
import Derived.Test.YtngpeehjjcgmmaaRingB
namespace Go.Proofs.Ytngpeehjjcgmmaa
open Go.RowKit

/-- the old index of the crease that has the index k behind a crimp at i -/
def sig (n i k : Nat) : Nat := if i = 0 then (if k = 0 then n - 1 else k + 1) else if i = n - 1 then (if k = 0 then n - 2 else k) else (if k < i then k else k + 2)
def crimpX (n : Nat) (x : Nat → Int) (i k : Nat) : Int := if sig n i k = prv n i then x (prv n i) + (x (nxt n i) - x i) else x (sig n i k)

section
variable {n i : Nat}
theorem sig_lt {k : Nat} (hn : 4 ≤ n) (hi : i < n) (hk : k < n - 2) : sig n i k < n ∧ sig n i k ≠ i ∧ sig n i k ≠ nxt n i := by
  unfold sig nxt; repeat' split
  all_goals omega
theorem sig_inj {j k : Nat} (hn : 4 ≤ n) (_hi : i < n) (hj : j < n - 2) (hk : k < n - 2) (h : sig n i j = sig n i k) : j = k := by
  unfold sig at h
  repeat' split at h
  all_goals omega
theorem sig_nxt {k : Nat} (hn : 4 ≤ n) (hi : i < n) (hk : k < n - 2) : sig n i (nxt (n - 2) k) = if sig n i k = prv n i then nxt n (nxt n i) else nxt n (sig n i k) := by
  unfold sig nxt prv; repeat' split
  all_goals omega
theorem sig_prv {k : Nat} (hn : 4 ≤ n) (hi : i < n) (hk : k < n - 2) : sig n i (prv (n - 2) k) = if sig n i k = nxt n (nxt n i) then prv n i else prv n (sig n i k) := by
  unfold sig nxt prv; repeat' split
  all_goals omega
theorem sig_zero (hn : 4 ≤ n) (hi : i < n) : sig n i 0 = if i = 0 ∨ nxt n i = 0 then prv n i else 0 := by
  unfold sig nxt prv; repeat' split
  all_goals omega
theorem nn_ne (hn : 4 ≤ n) (_hi : i < n) : nxt n (nxt n i) ≠ prv n i := by
  unfold nxt prv; repeat' split
  all_goals omega
end

structure Nodes (w : World) (n : Nat) (b : Nat → Nat) (x : Nat → Int) (f : Nat → Nat) : Prop where
  node : ∀ k, k < n → Blk w (b k) 59 (nodeCells n b x f k)
  inj : ∀ i j, i < n → j < n → b i = b j → i = j
theorem Ring.nodes {w : World} {p n : Nat} {b : Nat → Nat} {x : Nat → Int} {f : Nat → Nat} (h : Ring w p n b x f) : Nodes w n b x f := ⟨h.node, h.inj⟩

theorem crimp_ring {w : World} {p n i s : Nat} {b : Nat → Nat} {x : Nat → Int} {f : Nat → Nat} (h : Nodes w n b x f) (hd : Blk w p 57 #[ptr (b s), .int .i64 n])
    (hn : 4 ≤ n) (hi : i < n) (hs : s = if i = 0 ∨ nxt n i = 0 then prv n i else 0) :
    Ring ((((w.setCell ⟨b (prv n i), 0, none⟩ (.int .i64 (x (prv n i) + (x (nxt n i) - x i)))).setCell ⟨b (prv n i), 3, none⟩ (ptr (b (nxt n (nxt n i))))).setCell ⟨b (nxt n (nxt n i)), 2, none⟩ (ptr (b (prv n i)))).setCell ⟨p, 1, none⟩ (.int .i64 ((n - 2 : Nat) : Int)))
      p (n - 2) (fun k => b (sig n i k)) (crimpX n x i) (fun k => f (sig n i k)) := by
  have l1 : prv n i < n := prv_lt hi
  have l2 : nxt n (nxt n i) < n := nxt_lt (nxt_lt hi)
  have np : ∀ k, k < n → p ≠ b k := fun k hk => Blk.ne_ hd (h.node k hk) (by decide)
  refine ⟨?_, fun k hk => ?_, fun j k hj hk e => sig_inj hn hi hj hk (h.inj _ _ (sig_lt hn hi hj).1 (sig_lt hn hi hk).1 e)⟩
  · have := (((hd.far (p := ⟨b (prv n i), 0, none⟩) (np _ l1) (.int .i64 (x (prv n i) + (x (nxt n i) - x i)))).far (p := ⟨b (prv n i), 3, none⟩) (np _ l1) (ptr (b (nxt n (nxt n i))))).far (p := ⟨b (nxt n (nxt n i)), 2, none⟩) (np _ l2) (ptr (b (prv n i)))).set_ 1 (.int .i64 ((n - 2 : Nat) : Int))
    rw [sig_zero hn hi, ← hs]
    exact this
  · obtain ⟨hl, hne1, hne2⟩ := sig_lt hn hi hk
    have h0 := h.node _ hl
    have far : ∀ j, j < n → sig n i k ≠ j → b (sig n i k) ≠ b j := fun j hj hne e => hne (h.inj _ _ hl hj e)
    have hp : b (sig n i k) ≠ p := fun e => np _ hl e.symm
    have nne := nn_ne hn hi
    unfold nodeCells
    dsimp only
    rw [sig_nxt hn hi hk, sig_prv hn hi hk]
    unfold crimpX
    by_cases e1 : sig n i k = prv n i
    · have e2 : sig n i k ≠ nxt n (nxt n i) := fun e => nne (e.symm.trans e1)
      rw [if_pos e1, if_pos e1, if_neg e2, e1]
      have h1 := (((h.node _ l1).set_ 0 (.int .i64 (x (prv n i) + (x (nxt n i) - x i)))).set_ 3 (ptr (b (nxt n (nxt n i))))).far (p := ⟨b (nxt n (nxt n i)), 2, none⟩) (by rw [← e1]; exact far _ l2 e2) (ptr (b (prv n i)))
      exact h1.far (p := ⟨p, 1, none⟩) (by rw [← e1]; exact hp) _
    · rw [if_neg e1, if_neg e1]
      have h1 := (h0.far (p := ⟨b (prv n i), 0, none⟩) (far _ l1 e1) (.int .i64 (x (prv n i) + (x (nxt n i) - x i)))).far (p := ⟨b (prv n i), 3, none⟩) (far _ l1 e1) (ptr (b (nxt n (nxt n i))))
      by_cases e2 : sig n i k = nxt n (nxt n i)
      · rw [if_pos e2, e2]
        rw [e2] at h1 hp
        exact (h1.set_ 2 (ptr (b (prv n i)))).far (p := ⟨p, 1, none⟩) hp _
      · rw [if_neg e2]
        exact (h1.far (p := ⟨b (nxt n (nxt n i)), 2, none⟩) (far _ l2 e2) (ptr (b (prv n i)))).far (p := ⟨p, 1, none⟩) hp _

end Go.Proofs.Ytngpeehjjcgmmaa
