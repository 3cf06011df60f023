/- The ring of linked creases as it lies in memory, and what the program's 'allowed' answers on it. No condition. -/
import Derived.Test.YtngpeehjjcgmmaaBase
namespace Go.Proofs.Ytngpeehjjcgmmaa
open Go.RowKit

abbrev ptr (b : Nat) : Value := .pointer (some ⟨b, 0, none⟩)
def nxt (n k : Nat) : Nat := if k + 1 = n then 0 else k + 1
def prv (n k : Nat) : Nat := if k = 0 then n - 1 else k - 1

/-- the node k of a ring of n creases -/
def nodeCells (n : Nat) (b : Nat → Nat) (x : Nat → Int) (f : Nat → Nat) (k : Nat) : Array Value :=
  #[.int .i64 (x k), .int .u8 (f k), ptr (b (prv n k)), ptr (b (nxt n k))]

structure Ring (w : World) (p n : Nat) (b : Nat → Nat) (x : Nat → Int) (f : Nat → Nat) : Prop where
  head : Blk w p 57 #[ptr (b 0), .int .i64 n]
  node : ∀ k, k < n → Blk w (b k) 59 (nodeCells n b x f k)
  inj : ∀ i j, i < n → j < n → b i = b j → i = j

section
variable {w w' : World} {p n : Nat} {b : Nat → Nat} {x : Nat → Int} {f : Nat → Nat}
theorem Ring.drewN (h : Ring w p n b x f) (k : Nat) : Ring (w.drewN k) p n b x f := ⟨h.head, h.node, h.inj⟩
theorem Ring.angle (h : Ring w p n b x f) {k : Nat} (hk : k < n) : w.cell? ⟨b k, 0, none⟩ = some (.int .i64 (x k)) := by rw [(h.node k hk).cell]; rfl
theorem Ring.fold (h : Ring w p n b x f) {k : Nat} (hk : k < n) : w.cell? ⟨b k, 1, none⟩ = some (.int .u8 (f k)) := by rw [(h.node k hk).cell]; rfl
theorem Ring.prev (h : Ring w p n b x f) {k : Nat} (hk : k < n) : w.cell? ⟨b k, 2, none⟩ = some (ptr (b (prv n k))) := by rw [(h.node k hk).cell]; rfl
theorem Ring.next (h : Ring w p n b x f) {k : Nat} (hk : k < n) : w.cell? ⟨b k, 3, none⟩ = some (ptr (b (nxt n k))) := by rw [(h.node k hk).cell]; rfl
theorem Ring.first (h : Ring w p n b x f) : w.cell? ⟨p, 0, none⟩ = some (ptr (b 0)) := by rw [h.head.cell]; rfl
theorem Ring.many (h : Ring w p n b x f) : w.cell? ⟨p, 1, none⟩ = some (.int .i64 n) := by rw [h.head.cell]; rfl
end

/-- from the crease j on, no angle up to i is less than v -/
def lessGo (n : Nat) (x : Nat → Int) (i : Nat) (v : Int) : Nat → Nat → Bool
  | 0, _ => true
  | fuel + 1, j => if j = i then true else if x j < v then false else lessGo n x i v fuel (nxt n j)

def allowedB (n : Nat) (x : Nat → Int) (f : Nat → Nat) (i : Nat) : Bool :=
  if n < 4 then false else if f i = f (nxt n i) then false else lessGo n x i (x i) n (nxt n i)

theorem nxt_lt {n k : Nat} (hk : k < n) : nxt n k < n := by unfold nxt; split <;> omega
theorem prv_lt {n k : Nat} (hk : k < n) : prv n k < n := by unfold prv; split <;> omega

def dist (n i j : Nat) : Nat := if j ≤ i then i - j else i + n - j
theorem dist_nxt {n i j : Nat} (hi : i < n) (hj : j < n) (hne : j ≠ i) : dist n i (nxt n j) + 1 = dist n i j := by
  unfold dist nxt; repeat' split
  all_goals omega
theorem dist_start {n i : Nat} (hi : i < n) : dist n i (nxt n i) + 1 ≤ n := by
  unfold dist nxt; repeat' split
  all_goals omega

theorem creaseInfo : ∃ j : TypeInfo, Try.prog.info? 59 = some j ∧ j.size ≠ 0 := by
  have h : (Try.prog.info? 59).map (·.size) = some 4 := by kernel_rfl
  cases hj : Try.prog.info? 59 with
  | none => rw [hj] at h; cases h
  | some j => rw [hj] at h; injection h with h; exact ⟨j, rfl, by show j.size ≠ 0; rw [show j.size = 4 from h]; decide⟩

set_option maxHeartbeats 1000000 in
theorem allowed_any (w : World) (p n : Nat) (b : Nat → Nat) (x : Nat → Int) (f : Nat → Nat) (i : Nat) (h : Ring w p n b x f) (hi : i < n) (hn : n ≤ 100) (_hf : ∀ k, f k < 256) :
    Calls Try.prog 64 #[ptr p, ptr (b i)] w fun e w' => e = .returned (.bool (allowedB n x f i)) ∧ ∃ k, w.drewN k = w' := by
  have c1 := h.many
  have c2 := h.fold hi
  have c3 := h.next hi
  have hni := nxt_lt hi
  have c4 := h.fold hni
  by_cases h4 : n < 4
  · have hd : decide ((n : Int) < 4) = true := by simp; omega
    go_enter Try.func64, Try.ntmps64
    go_wp2
    go_quiet (fail)
    go_wp2
    go_ret
    exact ⟨ret_bool (by unfold allowedB; rw [if_pos h4]), _, rfl⟩
  · have hd : decide ((n : Int) < 4) = false := by simp; omega
    by_cases he : f i = f (nxt n i)
    · have hE : (((f i : Nat) : Int) == ((f (nxt n i) : Nat) : Int)) = true := by simp [he]
      have HE := Lib.hid he; clear he
      go_enter Try.func64, Try.ntmps64
      go_wp2
      go_quiet (fail)
      go_wp2
      go_ret
      exact ⟨ret_bool (by unfold allowedB; rw [if_neg h4, if_pos HE.out]), _, rfl⟩
    · have hE : (((f i : Nat) : Int) == ((f (nxt n i) : Nat) : Int)) = false := by simp; omega
      have HE := Lib.hid he; clear he
      go_enter Try.func64, Try.ntmps64
      go_wp2
      go_quiet (fail)
      go_wp2
      go_loopg [5] n (fun g s5 wr => ∃ m j, w.drewN m = wr ∧ j < n ∧ s5 = ptr (b j) ∧ dist n i j < g ∧ Hid (lessGo n x i (x i) n (nxt n i) = lessGo n x i (x i) g j))
      case atStart => exact ⟨_, _, rfl, hni, rfl, dist_start hi, rfl⟩
      case round =>
        obtain ⟨m, j, rfl, hj, rfl, hd, H⟩ := hrel
        cases gk with
        | zero => omega
        | succ g =>
        obtain ⟨j0, ij0, sj0⟩ := creaseInfo
        by_cases hji : j = i
        · subst hji
          have hq := run_neq_ptr_same (P := Try.prog) (w.drewN m) ⟨b j, 0, none⟩ Try.underlying55 ij0
          clear ij0
          go_wp2
          go_ret
          exact ⟨ret_bool (by unfold allowedB; rw [if_neg h4, if_neg HE.out, H.out, lessGo, if_pos rfl]), _, rfl⟩
        · have hq := run_neq_ptr_other (P := Try.prog) (w.drewN m) (a := ⟨b j, 0, none⟩) (b := ⟨b i, 0, none⟩) Try.underlying55 ij0 sj0 (by intro e; injection e with e; exact hji (h.inj _ _ hj hi e)) (h.node j hj) (h.node i hi)
          clear ij0
          have d1 := h.angle hj
          have d2 := h.angle hi
          have d3 := h.next hj
          have HJ := Lib.hid hji; clear hji
          by_cases hl : x j < x i
          · go_wp2
            go_quiet (fail)
            go_wp2
            go_ret
            exact ⟨ret_bool (by unfold allowedB; rw [if_neg h4, if_neg HE.out, H.out, lessGo, if_neg HJ.out, if_pos hl]), _, (World.drewN_drewN _ _ _).symm⟩
          · have hl2 : decide (x j < x i) = false := by simp; omega
            go_wp2
            go_quiet (fail)
            go_wp2
            go_roundg g
            case measure => omega
            case rel => exact ⟨_, nxt n j, rfl, nxt_lt hj, rfl, by have := dist_nxt hi hj HJ.out; omega, H.out.trans (by rw [lessGo, if_neg HJ.out, if_neg (by omega)])⟩

end Go.Proofs.Ytngpeehjjcgmmaa
