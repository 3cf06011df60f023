/- The ring of linked creases as it lies in memory, and what the program's 'allowed' answers on it. No condition. The program's 'crimps': the list of the indexes at which 'allowed' answers yes. No condition. The program's 'crimp' on a ring of linked creases: the ring that is left. No condition. The walk of the program's 'crimp': an allowed index, small angles. -/
import Derived.Test.YtkdlipbegdiaaaaGreatDoorEzAP2
namespace Go.Proofs.YtkdlipbegdiaaaaGreatDoor
open Go.RowKit
abbrev ptr (b : Nat) : Value := .pointer (some ⟨b, 0, none⟩)
def nxt (n k : Nat) : Nat := if k + 1 = n then 0 else k + 1
def prv (n k : Nat) : Nat := if k = 0 then n - 1 else k - 1
/-- the node k of a ring of n creases -/
def nodeCells (n : Nat) (b : Nat → Nat) (x : Nat → Int) (f : Nat → Nat) (k : Nat) : Array Value :=
  #[.int .i64 (x k), .int .u8 (f k), ptr (b (prv n k)), ptr (b (nxt n k))]
structure Ring (w : World) (p n : Nat) (b : Nat → Nat) (x : Nat → Int) (f : Nat → Nat) : Prop where
  head : Blk w p 181 #[ptr (b 0), .int .i64 n]
  node : ∀ k, k < n → Blk w (b k) 183 (nodeCells n b x f k)
  inj : ∀ i j, i < n → j < n → b i = b j → i = j
section
variable {w w' : World} {p n : Nat} {b : Nat → Nat} {x : Nat → Int} {f : Nat → Nat}
theorem Ring.drewN (h : Ring w p n b x f) (k : Nat) : Ring (w.drewN k) p n b x f := ⟨h.head, h.node, h.inj⟩
theorem Ring.angle (h : Ring w p n b x f) {k : Nat} (hk : k < n) : w.cell? ⟨b k, 0, none⟩ = some (.int .i64 (x k)) := by rw [(h.node k hk).cell]; rfl
theorem Ring.fold (h : Ring w p n b x f) {k : Nat} (hk : k < n) : w.cell? ⟨b k, 1, none⟩ = some (.int .u8 (f k)) := by rw [(h.node k hk).cell]; rfl
theorem Ring.prev (h : Ring w p n b x f) {k : Nat} (hk : k < n) : w.cell? ⟨b k, 2, none⟩ = some (ptr (b (prv n k))) := by rw [(h.node k hk).cell]; rfl
theorem Ring.next (h : Ring w p n b x f) {k : Nat} (hk : k < n) : w.cell? ⟨b k, 3, none⟩ = some (ptr (b (nxt n k))) := by rw [(h.node k hk).cell]; rfl
theorem Ring.first (h : Ring w p n b x f) : w.cell? ⟨p, 0, none⟩ = some (ptr (b 0)) := by rw [h.head.cell]; rfl
theorem Ring.many (h : Ring w p n b x f) : w.cell? ⟨p, 1, none⟩ = some (.int .i64 n) := by rw [h.head.cell]; rfl
end
/-- from the crease j on, no angle up to i is less than v -/
def lessGo (n : Nat) (x : Nat → Int) (i : Nat) (v : Int) : Nat → Nat → Bool
  | 0, _ => true
  | fuel + 1, j => if j = i then true else if x j < v then false else lessGo n x i v fuel (nxt n j)
def allowedB (n : Nat) (x : Nat → Int) (f : Nat → Nat) (i : Nat) : Bool :=
  if n < 4 then false else if f i = f (nxt n i) then false else lessGo n x i (x i) n (nxt n i)
theorem nxt_lt {n k : Nat} (hk : k < n) : nxt n k < n := by unfold nxt; split <;> omega
theorem prv_lt {n k : Nat} (hk : k < n) : prv n k < n := by unfold prv; split <;> omega
def dist (n i j : Nat) : Nat := if j ≤ i then i - j else i + n - j
theorem dist_nxt {n i j : Nat} (hi : i < n) (hj : j < n) (hne : j ≠ i) : dist n i (nxt n j) + 1 = dist n i j := by
  unfold dist nxt; repeat' split
  all_goals omega
theorem dist_start {n i : Nat} (hi : i < n) : dist n i (nxt n i) + 1 ≤ n := by
  unfold dist nxt; repeat' split
  all_goals omega
theorem creaseInfo : ∃ j : TypeInfo, Tryz.prog.info? 183 = some j ∧ j.size ≠ 0 := by
  have h : (Tryz.prog.info? 183).map (·.size) = some 4 := by kernel_rfl
  cases hj : Tryz.prog.info? 183 with
  | none => rw [hj] at h; cases h
  | some j => rw [hj] at h; injection h with h; exact ⟨j, rfl, by show j.size ≠ 0; rw [show j.size = 4 from h]; decide⟩
set_option maxHeartbeats 1000000 in
theorem allowed_any (w : World) (p n : Nat) (b : Nat → Nat) (x : Nat → Int) (f : Nat → Nat) (i : Nat) (h : Ring w p n b x f) (hi : i < n) (hn : n ≤ 100) (_hf : ∀ k, f k < 256) :
    Calls Tryz.prog 185 #[ptr p, ptr (b i)] w fun e w' => e = .returned (.bool (allowedB n x f i)) ∧ ∃ k, w.drewN k = w' := by
  have c1 := h.many
  have c2 := h.fold hi
  have c3 := h.next hi
  have hni := nxt_lt hi
  have c4 := h.fold hni
  by_cases h4 : n < 4
  · have hd : decide ((n : Int) < 4) = true := by simp; omega
    go_enter Tryz.func185, Tryz.ntmps185
    go_wp2
    go_quiet (fail)
    go_wp2
    go_ret
    exact ⟨ret_bool (by unfold allowedB; rw [if_pos h4]), _, rfl⟩
  · have hd : decide ((n : Int) < 4) = false := by simp; omega
    by_cases he : f i = f (nxt n i)
    · have hE : (((f i : Nat) : Int) == ((f (nxt n i) : Nat) : Int)) = true := by simp [he]
      have HE := Lib.hid he; clear he
      go_enter Tryz.func185, Tryz.ntmps185
      go_wp2
      go_quiet (fail)
      go_wp2
      go_ret
      exact ⟨ret_bool (by unfold allowedB; rw [if_neg h4, if_pos HE.out]), _, rfl⟩
    · have hE : (((f i : Nat) : Int) == ((f (nxt n i) : Nat) : Int)) = false := by simp; omega
      have HE := Lib.hid he; clear he
      go_enter Tryz.func185, Tryz.ntmps185
      go_wp2
      go_quiet (fail)
      go_wp2
      go_loopg [5] n (fun g s5 wr => ∃ m j, w.drewN m = wr ∧ j < n ∧ s5 = ptr (b j) ∧ dist n i j < g ∧ Hid (lessGo n x i (x i) n (nxt n i) = lessGo n x i (x i) g j))
      case atStart => exact ⟨_, _, rfl, hni, rfl, dist_start hi, rfl⟩
      case round =>
        obtain ⟨m, j, rfl, hj, rfl, hd, H⟩ := hrel
        cases gk with
        | zero => omega
        | succ g =>
        obtain ⟨j0, ij0, sj0⟩ := creaseInfo
        by_cases hji : j = i
        · subst hji
          have hq := run_neq_ptr_same (P := Tryz.prog) (w.drewN m) ⟨b j, 0, none⟩ Tryz.underlying179 ij0
          clear ij0
          go_wp2
          go_ret
          exact ⟨ret_bool (by unfold allowedB; rw [if_neg h4, if_neg HE.out, H.out, lessGo, if_pos rfl]), _, rfl⟩
        · have hq := run_neq_ptr_other (P := Tryz.prog) (w.drewN m) (a := ⟨b j, 0, none⟩) (b := ⟨b i, 0, none⟩) Tryz.underlying179 ij0 sj0 (by intro e; injection e with e; exact hji (h.inj _ _ hj hi e)) (h.node j hj) (h.node i hi)
          clear ij0
          have d1 := h.angle hj
          have d2 := h.angle hi
          have d3 := h.next hj
          have HJ := Lib.hid hji; clear hji
          by_cases hl : x j < x i
          · go_wp2
            go_quiet (fail)
            go_wp2
            go_ret
            exact ⟨ret_bool (by unfold allowedB; rw [if_neg h4, if_neg HE.out, H.out, lessGo, if_neg HJ.out, if_pos hl]), _, (World.drewN_drewN _ _ _).symm⟩
          · have hl2 : decide (x j < x i) = false := by simp; omega
            go_wp2
            go_quiet (fail)
            go_wp2
            go_roundg g
            case measure => omega
            case rel => exact ⟨_, nxt n j, rfl, nxt_lt hj, rfl, by have := dist_nxt hi hj HJ.out; omega, H.out.trans (by rw [lessGo, if_neg HJ.out, if_neg (by omega)])⟩
end Go.Proofs.YtkdlipbegdiaaaaGreatDoor
namespace Go.Proofs.YtkdlipbegdiaaaaGreatDoor
open Go.RowKit
section
variable {w w' : World} {p n : Nat} {b : Nat → Nat} {x : Nat → Int} {f : Nat → Nat}
theorem Ring.below (h : Ring w p n b x f) (hb : Below w.heap.size w w') : Ring w' p n b x f :=
  ⟨h.head.below hb h.head.lt, fun k hk => (h.node k hk).below hb (h.node k hk).lt, h.inj⟩
theorem Ring.at_ (h : Ring w p n b x f) {B : Nat} (hB : w.heap.size ≤ B) (hb : Below B w w') : Ring w' p n b x f :=
  h.below (hb.mono hB)
end
def crimpsTo (n : Nat) (x : Nat → Int) (f : Nat → Nat) (k : Nat) : List Int := ((List.range k).filter (allowedB n x f)).map Int.ofNat
theorem crimpsTo_yes {n k : Nat} {x : Nat → Int} {f : Nat → Nat} (h : allowedB n x f k = true) : crimpsTo n x f (k + 1) = crimpsTo n x f k ++ [(k : Int)] := by
  simp [crimpsTo, List.range_succ, List.filter_append, h]
theorem crimpsTo_no {n k : Nat} {x : Nat → Int} {f : Nat → Nat} (h : allowedB n x f k = false) : crimpsTo n x f (k + 1) = crimpsTo n x f k := by
  simp [crimpsTo, List.range_succ, List.filter_append, h]
theorem crimpsTo_len (n : Nat) (x : Nat → Int) (f : Nat → Nat) (k : Nat) : (crimpsTo n x f k).length ≤ k := by
  have := List.length_filter_le (allowedB n x f) (List.range k)
  simpa [crimpsTo] using this
set_option maxHeartbeats 1000000 in
theorem crimps_any (w : World) (p n : Nat) (b : Nat → Nat) (x : Nat → Int) (f : Nat → Nat) (h : Ring w p n b x f) (hn0 : 0 < n) (hn : n ≤ 100) (hf : ∀ k, f k < 256) :
    Calls Tryz.prog 174 #[ptr p] w fun e w' => ∃ v, e = .returned v ∧ Own w' w.heap.size v (crimpsTo n x f n) ∧ Below w.heap.size w w' := by
  have c2 := (h.below ((Below.refl _ _).alloc (Nat.le_refl _) (.cells #[] 3))).first
  go_enter Tryz.func174, Tryz.ntmps174
  go_wp2
  go_loopg [3, 4, 5] (n + 1) (fun g s3 s4 s5 wr => ∃ k, k ≤ n ∧ s5 = .int .i64 k ∧ s4 = ptr (b (if k = n then 0 else k)) ∧ n - k < g ∧ Own wr w.heap.size s3 (crimpsTo n x f k) ∧ Below w.heap.size w wr)
  case atStart => exact ⟨0, Nat.zero_le _, rfl, by rw [if_neg (by omega)], by omega, own_empty w (Nat.le_refl _), (Below.refl _ _).alloc (Nat.le_refl _) _⟩
  case round =>
    obtain ⟨k, hk, rfl, rfl, hg, hown, hbel⟩ := hrel
    have hr := h.below hbel
    have d1 := hr.many
    have hsz := hbel.size
    cases gk with
    | zero => omega
    | succ g =>
    by_cases hlt : k < n
    · rw [if_neg (Nat.ne_of_lt hlt)]
      have hlen := crimpsTo_len n x f k
      have d2 := hr.next hlt
      have hcur : b (if k + 1 = n then 0 else k + 1) = b (nxt n k) := rfl
      have HC := Lib.hid hcur; clear hcur
      cases ha : allowedB n x f k with
      | true =>
        have hy := crimpsTo_yes ha
        have HY := Lib.hid hy; clear hy
        have HA := Lib.hid ha; clear ha
        go_wp2_with fail
        refine (allowed_any wr p n b x f k hr hlt hn hf).mono ?_
        rintro e w1 ⟨rfl, m, rfl⟩
        rw [HA.out]
        go_wp2_with (at_builtin; go_loud (refine wpList_push (W := wr.drewN m) rfl _ _ rfl w.heap.size _ _ k (by rfl) (by rfl) hown hsz (by omega) ?_))
        intro v' w2 hown2 hgr hb2
        have hbel2 := (below_drewN hbel m).trans hb2
        have hr2 := h.below hbel2
        have d3 := hr2.next hlt
        clear hown d1 d2 hr hb2 hgr
        go_wp2
        go_roundg g
        case measure => omega
        case rel => exact ⟨k + 1, by omega, by go_num, by rw [HC.out], by omega, by rw [HY.out]; exact hown2, hbel2⟩
      | false =>
        have hy := crimpsTo_no ha
        have HY := Lib.hid hy; clear hy
        have HA := Lib.hid ha; clear ha
        go_wp2_with fail
        refine (allowed_any wr p n b x f k hr hlt hn hf).mono ?_
        rintro e w1 ⟨rfl, m, rfl⟩
        rw [HA.out]
        go_wp2
        go_roundg g
        case measure => omega
        case rel => exact ⟨k + 1, by omega, by go_num, by rw [HC.out], by omega, by rw [HY.out]; exact hown, below_drewN hbel m⟩
    · obtain rfl : k = n := by omega
      go_wp2
      go_ret
      exact ⟨_, rfl, hown, hbel⟩
end Go.Proofs.YtkdlipbegdiaaaaGreatDoor
namespace Go.Proofs.YtkdlipbegdiaaaaGreatDoor
open Go.RowKit
/-- the old index of the crease that has the index k behind a crimp at i -/
def sig (n i k : Nat) : Nat := if i = 0 then (if k = 0 then n - 1 else k + 1) else if i = n - 1 then (if k = 0 then n - 2 else k) else (if k < i then k else k + 2)
def crimpX (n : Nat) (x : Nat → Int) (i k : Nat) : Int := if sig n i k = prv n i then x (prv n i) + (x (nxt n i) - x i) else x (sig n i k)
section
variable {n i : Nat}
theorem sig_lt {k : Nat} (hn : 4 ≤ n) (hi : i < n) (hk : k < n - 2) : sig n i k < n ∧ sig n i k ≠ i ∧ sig n i k ≠ nxt n i := by
  unfold sig nxt; repeat' split
  all_goals omega
theorem sig_inj {j k : Nat} (hn : 4 ≤ n) (_hi : i < n) (hj : j < n - 2) (hk : k < n - 2) (h : sig n i j = sig n i k) : j = k := by
  unfold sig at h
  repeat' split at h
  all_goals omega
theorem sig_nxt {k : Nat} (hn : 4 ≤ n) (hi : i < n) (hk : k < n - 2) : sig n i (nxt (n - 2) k) = if sig n i k = prv n i then nxt n (nxt n i) else nxt n (sig n i k) := by
  unfold sig nxt prv; repeat' split
  all_goals omega
theorem sig_prv {k : Nat} (hn : 4 ≤ n) (hi : i < n) (hk : k < n - 2) : sig n i (prv (n - 2) k) = if sig n i k = nxt n (nxt n i) then prv n i else prv n (sig n i k) := by
  unfold sig nxt prv; repeat' split
  all_goals omega
theorem sig_zero (hn : 4 ≤ n) (hi : i < n) : sig n i 0 = if i = 0 ∨ nxt n i = 0 then prv n i else 0 := by
  unfold sig nxt prv; repeat' split
  all_goals omega
theorem nn_ne (hn : 4 ≤ n) (_hi : i < n) : nxt n (nxt n i) ≠ prv n i := by
  unfold nxt prv; repeat' split
  all_goals omega
end
structure Nodes (w : World) (n : Nat) (b : Nat → Nat) (x : Nat → Int) (f : Nat → Nat) : Prop where
  node : ∀ k, k < n → Blk w (b k) 183 (nodeCells n b x f k)
  inj : ∀ i j, i < n → j < n → b i = b j → i = j
theorem Ring.nodes {w : World} {p n : Nat} {b : Nat → Nat} {x : Nat → Int} {f : Nat → Nat} (h : Ring w p n b x f) : Nodes w n b x f := ⟨h.node, h.inj⟩
theorem crimp_ring {w : World} {p n i s : Nat} {b : Nat → Nat} {x : Nat → Int} {f : Nat → Nat} (h : Nodes w n b x f) (hd : Blk w p 181 #[ptr (b s), .int .i64 n])
    (hn : 4 ≤ n) (hi : i < n) (hs : s = if i = 0 ∨ nxt n i = 0 then prv n i else 0) :
    Ring ((((w.setCell ⟨b (prv n i), 0, none⟩ (.int .i64 (x (prv n i) + (x (nxt n i) - x i)))).setCell ⟨b (prv n i), 3, none⟩ (ptr (b (nxt n (nxt n i))))).setCell ⟨b (nxt n (nxt n i)), 2, none⟩ (ptr (b (prv n i)))).setCell ⟨p, 1, none⟩ (.int .i64 ((n - 2 : Nat) : Int)))
      p (n - 2) (fun k => b (sig n i k)) (crimpX n x i) (fun k => f (sig n i k)) := by
  have l1 : prv n i < n := prv_lt hi
  have l2 : nxt n (nxt n i) < n := nxt_lt (nxt_lt hi)
  have np : ∀ k, k < n → p ≠ b k := fun k hk => Blk.ne_ hd (h.node k hk) (by decide)
  refine ⟨?_, fun k hk => ?_, fun j k hj hk e => sig_inj hn hi hj hk (h.inj _ _ (sig_lt hn hi hj).1 (sig_lt hn hi hk).1 e)⟩
  · have := (((hd.far (p := ⟨b (prv n i), 0, none⟩) (np _ l1) (.int .i64 (x (prv n i) + (x (nxt n i) - x i)))).far (p := ⟨b (prv n i), 3, none⟩) (np _ l1) (ptr (b (nxt n (nxt n i))))).far (p := ⟨b (nxt n (nxt n i)), 2, none⟩) (np _ l2) (ptr (b (prv n i)))).set_ 1 (.int .i64 ((n - 2 : Nat) : Int))
    rw [sig_zero hn hi, ← hs]
    exact this
  · obtain ⟨hl, hne1, hne2⟩ := sig_lt hn hi hk
    have h0 := h.node _ hl
    have far : ∀ j, j < n → sig n i k ≠ j → b (sig n i k) ≠ b j := fun j hj hne e => hne (h.inj _ _ hl hj e)
    have hp : b (sig n i k) ≠ p := fun e => np _ hl e.symm
    have nne := nn_ne hn hi
    unfold nodeCells
    dsimp only
    rw [sig_nxt hn hi hk, sig_prv hn hi hk]
    unfold crimpX
    by_cases e1 : sig n i k = prv n i
    · have e2 : sig n i k ≠ nxt n (nxt n i) := fun e => nne (e.symm.trans e1)
      rw [if_pos e1, if_pos e1, if_neg e2, e1]
      have h1 := (((h.node _ l1).set_ 0 (.int .i64 (x (prv n i) + (x (nxt n i) - x i)))).set_ 3 (ptr (b (nxt n (nxt n i))))).far (p := ⟨b (nxt n (nxt n i)), 2, none⟩) (by rw [← e1]; exact far _ l2 e2) (ptr (b (prv n i)))
      exact h1.far (p := ⟨p, 1, none⟩) (by rw [← e1]; exact hp) _
    · rw [if_neg e1, if_neg e1]
      have h1 := (h0.far (p := ⟨b (prv n i), 0, none⟩) (far _ l1 e1) (.int .i64 (x (prv n i) + (x (nxt n i) - x i)))).far (p := ⟨b (prv n i), 3, none⟩) (far _ l1 e1) (ptr (b (nxt n (nxt n i))))
      by_cases e2 : sig n i k = nxt n (nxt n i)
      · rw [if_pos e2, e2]
        rw [e2] at h1 hp
        exact (h1.set_ 2 (ptr (b (prv n i)))).far (p := ⟨p, 1, none⟩) hp _
      · rw [if_neg e2]
        exact (h1.far (p := ⟨b (nxt n (nxt n i)), 2, none⟩) (far _ l2 e2) (ptr (b (prv n i)))).far (p := ⟨p, 1, none⟩) hp _
end Go.Proofs.YtkdlipbegdiaaaaGreatDoor
namespace Go.Proofs.YtkdlipbegdiaaaaGreatDoor
open Go.RowKit
theorem run_eql_crease {w : World} {n : Nat} {b : Nat → Nat} {x : Nat → Int} {f : Nat → Nat} (h : Nodes w n b x f) {i j : Nat} (hi : i < n) (hj : j < n) :
    (binOp .eql 179 (ptr (b i)) (ptr (b j))).run Tryz.prog w = .ok (.bool (decide (i = j))) w := by
  obtain ⟨j0, ij0, sj0⟩ := creaseInfo
  by_cases e : i = j
  · subst e
    rw [run_eql_ptr_same (P := Tryz.prog) w ⟨b i, 0, none⟩ Tryz.underlying179 ij0]; simp
  · rw [run_eql_ptr_other (P := Tryz.prog) w (a := ⟨b i, 0, none⟩) (b := ⟨b j, 0, none⟩) Tryz.underlying179 ij0 sj0 (by intro h2; injection h2 with h2; exact e (h.inj _ _ hi hj h2)) (h.node i hi) (h.node j hj)]
    simp [e]
section
variable {w w' : World} {p n : Nat} {b : Nat → Nat} {x : Nat → Int} {f : Nat → Nat}
theorem Ring.drew (h : Ring w p n b x f) : Ring w.drew p n b x f := ⟨h.head, h.node, h.inj⟩
theorem Nodes.angle (h : Nodes w n b x f) {k : Nat} (hk : k < n) : w.cell? ⟨b k, 0, none⟩ = some (.int .i64 (x k)) := by rw [(h.node k hk).cell]; rfl
theorem Nodes.prev (h : Nodes w n b x f) {k : Nat} (hk : k < n) : w.cell? ⟨b k, 2, none⟩ = some (ptr (b (prv n k))) := by rw [(h.node k hk).cell]; rfl
theorem Nodes.next (h : Nodes w n b x f) {k : Nat} (hk : k < n) : w.cell? ⟨b k, 3, none⟩ = some (ptr (b (nxt n k))) := by rw [(h.node k hk).cell]; rfl
end
set_option maxHeartbeats 2000000 in
set_option maxRecDepth 100000 in
theorem crimp_any (w : World) (B p n : Nat) (b : Nat → Nat) (x : Nat → Int) (f : Nat → Nat) (i : Nat) (h : Ring w p n b x f) (hi : i < n) (h4 : 4 ≤ n) (hn : n ≤ 100)
    (hx : ∀ k, k < n → -1000000 ≤ x k ∧ x k ≤ 1000000) (hB : B ≤ p) (hBb : ∀ k, k < n → B ≤ b k) :
    Calls Tryz.prog 156 #[ptr p, .int .i64 i] w fun e w' => e = .returned (.tuple #[]) ∧ Ring w' p (n - 2) (fun k => b (sig n i k)) (crimpX n x i) (fun k => f (sig n i k)) ∧ Below B w w' := by
  have c1 := h.first
  go_enter Tryz.func156, Tryz.ntmps156
  go_wp2
  go_loopg [1, 4] (i + 1) (fun g s1 s4 wr => w = wr ∧ ∃ j, j ≤ i ∧ s1 = .int .i64 ((i - j : Nat) : Int) ∧ s4 = ptr (b j) ∧ i - j < g)
  case atStart => exact ⟨rfl, 0, by omega, rfl, rfl, by omega⟩
  case round =>
    obtain ⟨rfl, j, hj, rfl, rfl, hg⟩ := hrel
    cases gk with
    | zero => omega
    | succ g =>
    by_cases hlt : j < i
    · have d1 := h.next (k := j) (by omega)
      have e1 : nxt n j = j + 1 := by unfold nxt; rw [if_neg (by omega)]
      rw [e1] at d1
      clear e1
      have e2 : ((i - j : Nat) : Int) = (i : Int) - j := by omega
      rw [e2]
      clear e2
      go_wp2
      go_roundg g
      case measure => omega
      case rel => exact ⟨rfl, j + 1, by omega, by congr 1; omega, rfl, by omega⟩
    · obtain rfl : j = i := by omega
      have e2 : ((j - j : Nat) : Int) = 0 := by omega
      rw [e2]
      clear e2
      have d1 := h.next hi
      have d2 := h.prev hi
      go_wp2
      go_quiet (fail)
      have np : ∀ k, k < n → p ≠ b k := fun k hk => Blk.ne_ h.head (h.node k hk) (by decide)
      have hN : ∀ v, Nodes ((w.setCell ⟨p, 0, none⟩ v).drewN nq) n b x f := fun v => ⟨fun k hk => (h.node k hk).far (p := ⟨p, 0, none⟩) (fun e => np k hk e.symm) v, h.inj⟩
      have hH : ∀ v, Blk ((w.setCell ⟨p, 0, none⟩ v).drewN nq) p 181 #[v, .int .i64 n] := fun v => h.head.set_ 0 v
      have hBel : ∀ v, Below B w ((w.setCell ⟨p, 0, none⟩ v).drewN nq) := fun v => below_drewN ((Below.refl B w).setCell (p := ⟨p, 0, none⟩) hB v) nq
      have AL := Lib.hid (And.intro hN (And.intro hH hBel))
      clear hN hH hBel np
      have fp : (w.drewN nq).frozen? ⟨p, 0, none⟩ = false := h.head.frozen 0
      have q1 := run_eql_crease (h.drewN nq).nodes hi (j := 0) (by omega)
      have q2 := run_eql_crease (h.drewN nq).nodes (nxt_lt hi) (j := 0) (by omega)
      go_upto_region 5 with (fail)
      go_cut [40] (fun s40 wc => s40 = .bool (decide (j = 0 ∨ nxt n j = 0)) ∧ w.drewN nq = wc)
      case first =>
        by_cases z1 : j = 0
        · rw [decide_eq_true z1] at q1
          have Z1 := Lib.hid z1; clear z1
          go_wp2
          go_meet
          case rel => exact ⟨by rw [decide_eq_true (Or.inl Z1.out)], rfl⟩
        · rw [decide_eq_false z1] at q1
          have Z1 := Lib.hid z1; clear z1
          by_cases z2 : nxt n j = 0
          · rw [decide_eq_true z2] at q2
            have Z2 := Lib.hid z2; clear z2
            go_wp2
            go_meet
            case rel => exact ⟨by rw [decide_eq_true (Or.inr Z2.out)], rfl⟩
          · rw [decide_eq_false z2] at q2
            have Z2 := Lib.hid z2; clear z2
            go_wp2
            go_meet
            case rel => exact ⟨by rw [decide_eq_false (fun e => e.elim Z1.out Z2.out)], rfl⟩
      case rest =>
      obtain ⟨rfl, rfl⟩ := hcut
      clear q1 q2
      go_upto_if 40 with (fail)
      go_cut [] (fun wc => ∃ s, Hid (s = if j = 0 ∨ nxt n j = 0 then prv n j else 0) ∧ Nodes wc n b x f ∧ Blk wc p 181 #[ptr (b s), .int .i64 n] ∧ Below B w wc)
      case first =>
        by_cases z1 : j = 0 ∨ nxt n j = 0
        · rw [decide_eq_true z1]
          have Z1 := Lib.hid z1; clear z1
          go_wp2
          go_meet
          case rel => exact ⟨prv n j, by show _ = _; rw [if_pos Z1.out], AL.out.1 _, AL.out.2.1 _, AL.out.2.2 _⟩
        · rw [decide_eq_false z1]
          have Z1 := Lib.hid z1; clear z1
          go_wp2
          go_meet
          case rel => exact ⟨0, by show _ = _; rw [if_neg Z1.out], (h.drewN nq).nodes, (h.drewN nq).head, below_drewN (Below.refl B w) nq⟩
      case rest =>
        obtain ⟨s, HS, hN, hH, hbel⟩ := hcut
        have a1 := hN.angle (prv_lt hi)
        have a2 := hN.angle (nxt_lt hi)
        have a3 := hN.angle hi
        have f1 : wc.frozen? ⟨b (prv n j), 0, none⟩ = false := (hN.node _ (prv_lt hi)).frozen 0
        obtain ⟨x1, x2⟩ := hx _ (prv_lt hi)
        obtain ⟨x3, x4⟩ := hx _ (nxt_lt hi)
        obtain ⟨x5, x6⟩ := hx _ hi
        clear hx d1 d2 c1 AL fp
        go_wp2
        have np : ∀ k, k < n → p ≠ b k := fun k hk => Blk.ne_ hH (hN.node k hk) (by decide)
        have lp := prv_lt hi
        have ln := nxt_lt hi
        have lnn := nxt_lt ln
        have ne1 : b (nxt n j) ≠ b (prv n j) := fun e => by
          have := hN.inj _ _ ln lp e
          revert this; unfold nxt prv; repeat' split
          all_goals omega
        have ne2 : b (nxt n (nxt n j)) ≠ b (prv n j) := fun e => nn_ne h4 hi (hN.inj _ _ lnn lp e)
        have ne3 : b (nxt n (nxt n j)) ≠ b (nxt n j) := fun e => by
          have := hN.inj _ _ lnn ln e
          revert this; unfold nxt; repeat' split
          all_goals omega
        have np1 := np _ lp
        have np2 := np _ ln
        have np3 := np _ lnn
        have g1 : ∀ u, (wc.setCell ⟨b (prv n j), 0, none⟩ u).cell? ⟨b (nxt n j), 3, none⟩ = some (ptr (b (nxt n (nxt n j)))) := fun u => by
          rw [((hN.node _ ln).far (p := ⟨b (prv n j), 0, none⟩) ne1 u).cell]; rfl
        have g2 : ∀ u, (wc.setCell ⟨b (prv n j), 0, none⟩ u).cell? ⟨b (prv n j), 3, none⟩ = some (ptr (b (nxt n (prv n j)))) := fun u => by
          rw [((hN.node _ lp).set_ 0 u).cell]; rfl
        have g3 : ∀ u t, ((wc.setCell ⟨b (prv n j), 0, none⟩ u).setCell ⟨b (prv n j), 3, none⟩ t).cell? ⟨b (nxt n j), 3, none⟩ = some (ptr (b (nxt n (nxt n j)))) := fun u t => by
          rw [(((hN.node _ ln).far (p := ⟨b (prv n j), 0, none⟩) ne1 u).far (p := ⟨b (prv n j), 3, none⟩) ne1 t).cell]; rfl
        have g4 : ∀ u t, ((wc.setCell ⟨b (prv n j), 0, none⟩ u).setCell ⟨b (prv n j), 3, none⟩ t).cell? ⟨b (nxt n (nxt n j)), 2, none⟩ = some (ptr (b (prv n (nxt n (nxt n j))))) := fun u t => by
          rw [(((hN.node _ lnn).far (p := ⟨b (prv n j), 0, none⟩) ne2 u).far (p := ⟨b (prv n j), 3, none⟩) ne2 t).cell]; rfl
        have g5 : ∀ u t v, (((wc.setCell ⟨b (prv n j), 0, none⟩ u).setCell ⟨b (prv n j), 3, none⟩ t).setCell ⟨b (nxt n (nxt n j)), 2, none⟩ v).cell? ⟨p, 1, none⟩ = some (.int .i64 n) := fun u t v => by
          rw [(((hH.far (p := ⟨b (prv n j), 0, none⟩) np1 u).far (p := ⟨b (prv n j), 3, none⟩) np1 t).far (p := ⟨b (nxt n (nxt n j)), 2, none⟩) np3 v).cell]; rfl
        have f2 : wc.frozen? ⟨b (prv n j), 3, none⟩ = false := (hN.node _ lp).frozen 3
        have f3 : wc.frozen? ⟨b (nxt n (nxt n j)), 2, none⟩ = false := (hN.node _ lnn).frozen 2
        have f4 : wc.frozen? ⟨p, 1, none⟩ = false := hH.frozen 1
        clear np ne1 ne2 ne3 np1 np2 np3
        go_region
        go_wp2
        go_end0
        have R := crimp_ring hN hH h4 hi HS.out
        have e : ((n - 2 : Nat) : Int) = (n : Int) - 2 := by omega
        rw [e] at R
        refine ⟨rfl, R.drew, ?_⟩
        have hb1 := hBb _ lp
        have hb2 := hBb _ lnn
        exact ((((hbel.setCell (p := ⟨b (prv n j), 0, none⟩) hb1 _).setCell (p := ⟨b (prv n j), 3, none⟩) hb1 _).setCell (p := ⟨b (nxt n (nxt n j)), 2, none⟩) hb2 _).setCell (p := ⟨p, 1, none⟩) hB _).drew
end Go.Proofs.YtkdlipbegdiaaaaGreatDoor
