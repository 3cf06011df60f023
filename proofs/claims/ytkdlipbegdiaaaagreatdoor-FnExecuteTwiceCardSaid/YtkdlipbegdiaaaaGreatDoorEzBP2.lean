/- The words for memory that all walks of this seat share: a slice of integers that reads as a list, a block known whole, what a call may write. No condition. The ring of linked creases as it lies in memory, and what the program's 'allowed' answers on it. No condition. The reader of a code, byte by byte: 'l6Open', 'pick', 'of'. Its place is bounded; nothing else is asked. What the rows' own reading of a slice of bytes gives the walks. No condition. The reader of a code: 'l6Open', 'of'. No condition but sizes. -/
import Derived.Test.YtkdlipbegdiaaaaGreatDoorRows
import Derived.WalkKit
import Derived.WalkSpells
import Derived.WalkLawsBesides
import Derived.Lib.Hide
import Derived.LaidEqlPtr
import Derived.BigQuiet
import Derived.Deep.QuietTactic
import Derived.Deep.AppendLies
import Derived.Maps.AppendAt
import Derived.Deep.Draws
import Derived.Deep.DeepCutAuto
import Derived.BigRegion
import Derived.Laws.BitsAllLaws
import Derived.Laws.BitsLemmas
namespace Go.Proofs.YtkdlipbegdiaaaaGreatDoor
open Go.RowKit
/-- the cells of a slice of integers, where there are any -/
def Ints (w : World) (A : Option Addr) (xs : List Int) : Prop :=
  xs ≠ [] → ∃ b off, A = some ⟨b, off, none⟩ ∧ b < w.heap.size ∧ ∀ k x, xs[k]? = some x → w.cell? ⟨b, off + k, none⟩ = some (.int .i64 x)
theorem Ints.at_ {w : World} {A : Option Addr} {xs : List Int} {k : Nat} (h : Ints w A xs) (hk : k < xs.length) :
    ∃ b off x, A = some ⟨b, off, none⟩ ∧ b < w.heap.size ∧ Hid (xs.drop k = x :: xs.drop (k + 1)) ∧ w.cell? ⟨b, off + k, none⟩ = some (.int .i64 x) ∧ x ∈ xs := by
  obtain ⟨b, off, e, hb, hc⟩ := h (by intro e; subst e; simp at hk)
  exact ⟨b, off, xs[k], e, hb, List.drop_eq_getElem_cons hk, hc k _ (List.getElem?_eq_getElem hk), List.getElem_mem hk⟩
theorem Ints.nil (w : World) (A : Option Addr) : Ints w A [] := fun h => absurd rfl h
theorem Ints.keep {w w' : World} {A : Option Addr} {xs : List Int} (h : Ints w A xs) (hs : w.heap.size ≤ w'.heap.size) (hk : ∀ p : Addr, p.block < w.heap.size → w'.cell? p = w.cell? p) : Ints w' A xs := by
  intro hn
  obtain ⟨b, off, e, hb, hc⟩ := h hn
  exact ⟨b, off, e, Nat.lt_of_lt_of_le hb hs, fun k x hx => (hk ⟨b, off + k, none⟩ hb).trans (hc k x hx)⟩
theorem Ints.below {w w' : World} {A : Option Addr} {xs : List Int} (h : Ints w A xs) (hb : Below w.heap.size w w') : Ints w' A xs :=
  h.keep hb.size fun _ hp => hb.cell hp
theorem Ints.drew {w : World} {A : Option Addr} {xs : List Int} (h : Ints w A xs) : Ints w.drew A xs := h
theorem Ints.alloc {w : World} {A : Option Addr} {xs : List Int} (h : Ints w A xs) (o : Obj) : Ints (w.alloc o) A xs :=
  h.below ((Below.refl _ _).alloc (Nat.le_refl _) o)
theorem Ints.of_own {w : World} {base : Nat} {e : TypeId} {A : Option Addr} {n c : Nat} {xs : List Int} (h : w.ownsRow base e 1 (.slice A n c) n (xs.map (Value.int .i64))) : Ints w A xs := by
  intro hn
  have hlen := h.1
  rcases h.2 with ⟨_, h0⟩ | ⟨g, cap, cur, hv, hb, hg, hnc, _, _, htake⟩
  · exfalso; apply hn; apply List.eq_nil_of_length_eq_zero; simpa [h0] using hlen
  · injection hv with hA
    subst hA
    refine ⟨g, 0, rfl, (Array.getElem?_eq_some_iff.1 hg).1, fun k x hx => ?_⟩
    have := h.cells (g := g) rfl k (.int .i64 x) (by rw [List.getElem?_map, hx]; rfl)
    rw [← this]
    congr 1
    unfold Addr.add
    split
    · next h0 => subst h0; simp
    · simp
theorem run_neq_ptr_same {P : Program} (w : World) {tp te : TypeId} {j : TypeInfo} (a : Addr) (hp : P.underlying tp = some (.pointer te)) (hte : P.info? te = some j) :
    (binOp .neq tp (.pointer (some a)) (.pointer (some a))).run P w = .ok (.bool false) w := by
  have h : ∀ d : Nat, (Op.equalIn (d + 1) tp (.pointer (some a)) (.pointer (some a))).run P w = .ok true w := fun d => by
    simp [Op.equalIn, run_underlying hp, sizeOf, typeInfo, hte, run_sameAddr_same]
  simp only [binOp]
  simp [Op.equal, Op.maxDepth, h 9999]
theorem run_neq_ptr_other {P : Program} (w : World) {tp te : TypeId} {j : TypeInfo} {a b : Addr} {ca cb : Array Value} {ta tb : TypeId} (hp : P.underlying tp = some (.pointer te)) (hte : P.info? te = some j) (hsz : j.size ≠ 0)
    (hne : a ≠ b) (ha : w.heap[a.block]? = some (.cells ca ta (0, 0))) (hb : w.heap[b.block]? = some (.cells cb tb (0, 0))) :
    (binOp .neq tp (.pointer (some a)) (.pointer (some b))).run P w = .ok (.bool true) w := by
  have h : ∀ d : Nat, (Op.equalIn (d + 1) tp (.pointer (some a)) (.pointer (some b))).run P w = .ok false w := fun d => by
    simp [Op.equalIn, run_underlying hp, sizeOf, typeInfo, hte, hsz, run_sameAddr_other w hne ha hb]
  simp only [binOp]
  simp [Op.equal, Op.maxDepth, h 9999]
/-- block g is just these cells, none frozen -/
def Blk (w : World) (g : Nat) (t : TypeId) (cs : Array Value) : Prop := w.heap[g]? = some (.cells cs t (0, 0))
section
variable {w w' : World} {g : Nat} {t : TypeId} {cs : Array Value}
theorem Blk.lt (h : Blk w g t cs) : g < w.heap.size := by
  rcases Nat.lt_or_ge g w.heap.size with hlt | hge
  · exact hlt
  · unfold Blk at h; rw [Array.getElem?_eq_none hge] at h; cases h
theorem Blk.cell (h : Blk w g t cs) (i : Nat) : w.cell? ⟨g, i, none⟩ = cs[i]? := cell_of_row w g i cs t (0, 0) h
theorem Blk.frozen (h : Blk w g t cs) (i : Nat) : w.frozen? ⟨g, i, none⟩ = false := by
  unfold Blk at h
  simp [World.frozen?, h]
theorem Blk.new (w : World) (t : TypeId) (cs : Array Value) : Blk (w.alloc (.cells cs t)) w.heap.size t cs := heap_alloc_new w _
theorem Blk.drew (h : Blk w g t cs) : Blk w.drew g t cs := h
theorem Blk.drewN (h : Blk w g t cs) (n : Nat) : Blk (w.drewN n) g t cs := h
theorem Blk.alloc (h : Blk w g t cs) (o : Obj) : Blk (w.alloc o) g t cs := (Below.heap_alloc w o g h.lt).trans h
theorem Blk.set_ (h : Blk w g t cs) (i : Nat) (u : Value) : Blk (w.setCell ⟨g, i, none⟩ u) g t (cs.setIfInBounds i u) := by
  unfold Blk at h ⊢
  simp [World.setCell, Array.getElem?_modify, h]
theorem Blk.far (h : Blk w g t cs) {p : Addr} (hp : g ≠ p.block) (u : Value) : Blk (w.setCell p u) g t cs := (Below.heap_setCell w p u g hp).trans h
theorem Blk.below {B : Nat} (h : Blk w g t cs) (hb : Below B w w') (hg : g < B) : Blk w' g t cs := (hb.block g hg).trans h
theorem Blk.grown {row : Option Nat} (h : Blk w g t cs) (hb : w.grownBy w' row) (hg : some g ≠ row) : Blk w' g t cs := (hb.block g h.lt hg).trans h
theorem Blk.ne_ {g' : Nat} {t' : TypeId} {cs' : Array Value} (h : Blk w g t cs) (h' : Blk w g' t' cs') (hne : t ≠ t') : g ≠ g' := by
  rintro rfl
  unfold Blk at h h'
  rw [h] at h'
  injection h' with h'
  injection h' with _ ht
  exact hne ht
theorem own_blk_ne {base : Nat} {e : TypeId} {size n : Nat} {v : Value} {xs : List Value} (h : w.ownsRow base e size v n xs) (hg : Blk w g t cs) (hne : e ≠ t) : v.ownBlock ≠ some g := by
  rcases h.2 with ⟨rfl, _⟩ | ⟨g', cap, cur, rfl, _, hh, _⟩
  · simp [Value.ownBlock]
  · intro he
    have : g' = g := by simpa [Value.ownBlock] using he
    subst this
    exact Blk.ne_ (t := e) hh hg hne rfl
end
theorem below_drewN {B : Nat} {a w : World} (h : Below B a w) (n : Nat) : Below B a (w.drewN n) := ⟨h.os, h.tape, h.output, h.size, h.block⟩
/-- a contract that says 'below H', H the heap's size, handed on -/
theorem below_from {B : Nat} {a w w' : World} (h : Below B a w) (k : Below w.heap.size w w') (hB : B ≤ w.heap.size) : Below B a w' := h.trans (k.mono hB)
/-- at a call in a region that only reads, of a callee that leaves the world as it was -/
theorem quietl {P : Program} {f : FuncId} {args : Array Value} {w : World} {n : Nat} {v : Value} (h : Calls P f args (w.drewN n) fun e w' => e = .returned v ∧ w.drewN n = w') :
    Calls P f args (w.drewN n) fun e w'' => e = .returned v ∧ ∃ m, w'' = w.drewN m := h.mono fun _ _ ⟨he, hm⟩ => ⟨he, n, hm.symm⟩
theorem ret_int {k : IntKind} {a b : Int} (h : a = b) : Ending.returned (.int k a) = .returned (.int k b) := by rw [h]
theorem ret_bool {a b : Bool} (h : a = b) : Ending.returned (.bool a) = .returned (.bool b) := by rw [h]
/-! ### append of one element to a row of the call's own -/
theorem Tryz.infoInt : (Tryz.prog.info? 3).map (fun i => (i.zero, i.size, i.bytes)) = some (some (.int .i64 0), 1, 8) := by kernel_rfl
/-- the integers xs, in a row that the call itself made, from block B on -/
abbrev Own (w : World) (B : Nat) (v : Value) (xs : List Int) : Prop := w.ownsRow B 3 1 v xs.length (xs.map (Value.int .i64))
theorem Own.form {w : World} {B : Nat} {v : Value} {xs : List Int} (h : Own w B v xs) : ∃ A c, v = .slice A xs.length c ∧ Ints w A xs ∧ xs.length ≤ c ∧ c ≤ maxLen := by
  rcases h.2 with ⟨rfl, h0⟩ | ⟨g, cap, cur, rfl, hb, hg, hnc, hcm, _, _⟩
  · exact ⟨none, 0, by rw [h0], by rw [List.eq_nil_of_length_eq_zero h0]; exact Ints.nil _ _, by omega, by simp [maxLen]⟩
  · exact ⟨_, cap, rfl, Ints.of_own h, hnc, hcm⟩
theorem wpList_push {ops : Array Oper} {rest : List Oper} {o : Oper} {a : Act} {Q : Exit → Act → World → Prop} {W : World} (hgd : o.guard = none) (s x : Operand)
    (ho : o.op = .call { callee := .builtin .append, args := #[s, x], argTypes := #[23, 23] })
    (B : Nat) (v : Value) (xs : List Int) (z : Int) (hs : a.eval s = v) (hx : a.eval x = .slice (some ⟨W.heap.size, 0, none⟩) 1 1) (hown : Own W B v xs) (hB : B ≤ W.heap.size) (hn : xs.length ≤ 1000000000000)
    (h : ∀ v' w', Own w' B v' (xs ++ [z]) → W.grownBy w' v.ownBlock → Below B W w' → wpList Tryz.prog ops Q rest (a.put o.dst v') w') :
    wpList Tryz.prog ops Q (o :: rest) a (W.alloc (.cells #[.int .i64 z] 3)) := by
  obtain ⟨i0, hi, hz0, hz1, hz2⟩ := info_parts Tryz.infoInt
  refine wpList_append_own _ hgd s x 23 ho B 3 i0 (.int .i64 0) 1 8 Tryz.underlying23 hi hz0 hz1 hz2 rfl (by decide) v _ _ hs (hown.alloc _) ⟨W.heap.size, 0, none⟩ 1 1 [.int .i64 z] hx rfl ?_ ?_ ?_ ?_ ?_ ?_
  · intro j u hj
    match j, hj with
    | 0, hj => simp at hj; subst hj; simp [Addr.add]
  · intro u hu; simp at hu; subst hu; rfl
  · unfold maxLen; omega
  · omega
  · simp; omega
  · intro v' w' ho' hg _
    have hg' : W.grownBy w' v.ownBlock := ⟨hg.os, hg.tape, hg.output, Nat.le_trans (by simp) hg.size, fun k hk hne => (hg.block k (by simp; omega) hne).trans (Below.heap_alloc W _ k hk)⟩
    refine h v' w' (by simpa [Own] using ho') hg' ((Below.refl _ _).grown hg' hB fun k hk => (hown.lt k hk).1)
/-- an empty row, just laid -/
theorem own_empty (w : World) {B : Nat} (hB : B ≤ w.heap.size) : Own (w.alloc (.cells #[] 3)) B (.slice (some ⟨w.heap.size, 0, none⟩) 0 0) [] :=
  World.ownsRow_lit w #[] 0 hB (by unfold maxLen; omega) rfl
end Go.Proofs.YtkdlipbegdiaaaaGreatDoor
namespace Go.Proofs.YtkdlipbegdiaaaaGreatDoor
open Go.RowKit
abbrev ptr (b : Nat) : Value := .pointer (some ⟨b, 0, none⟩)
def nxt (n k : Nat) : Nat := if k + 1 = n then 0 else k + 1
def prv (n k : Nat) : Nat := if k = 0 then n - 1 else k - 1
/-- the node k of a ring of n creases -/
def nodeCells (n : Nat) (b : Nat → Nat) (x : Nat → Int) (f : Nat → Nat) (k : Nat) : Array Value :=
  #[.int .i64 (x k), .int .u8 (f k), ptr (b (prv n k)), ptr (b (nxt n k))]
structure Ring (w : World) (p n : Nat) (b : Nat → Nat) (x : Nat → Int) (f : Nat → Nat) : Prop where
  head : Blk w p 181 #[ptr (b 0), .int .i64 n]
  node : ∀ k, k < n → Blk w (b k) 183 (nodeCells n b x f k)
  inj : ∀ i j, i < n → j < n → b i = b j → i = j
section
variable {w w' : World} {p n : Nat} {b : Nat → Nat} {x : Nat → Int} {f : Nat → Nat}
theorem Ring.drewN (h : Ring w p n b x f) (k : Nat) : Ring (w.drewN k) p n b x f := ⟨h.head, h.node, h.inj⟩
theorem Ring.angle (h : Ring w p n b x f) {k : Nat} (hk : k < n) : w.cell? ⟨b k, 0, none⟩ = some (.int .i64 (x k)) := by rw [(h.node k hk).cell]; rfl
theorem Ring.fold (h : Ring w p n b x f) {k : Nat} (hk : k < n) : w.cell? ⟨b k, 1, none⟩ = some (.int .u8 (f k)) := by rw [(h.node k hk).cell]; rfl
theorem Ring.prev (h : Ring w p n b x f) {k : Nat} (hk : k < n) : w.cell? ⟨b k, 2, none⟩ = some (ptr (b (prv n k))) := by rw [(h.node k hk).cell]; rfl
theorem Ring.next (h : Ring w p n b x f) {k : Nat} (hk : k < n) : w.cell? ⟨b k, 3, none⟩ = some (ptr (b (nxt n k))) := by rw [(h.node k hk).cell]; rfl
theorem Ring.first (h : Ring w p n b x f) : w.cell? ⟨p, 0, none⟩ = some (ptr (b 0)) := by rw [h.head.cell]; rfl
theorem Ring.many (h : Ring w p n b x f) : w.cell? ⟨p, 1, none⟩ = some (.int .i64 n) := by rw [h.head.cell]; rfl
end
/-- from the crease j on, no angle up to i is less than v -/
def lessGo (n : Nat) (x : Nat → Int) (i : Nat) (v : Int) : Nat → Nat → Bool
  | 0, _ => true
  | fuel + 1, j => if j = i then true else if x j < v then false else lessGo n x i v fuel (nxt n j)
def allowedB (n : Nat) (x : Nat → Int) (f : Nat → Nat) (i : Nat) : Bool :=
  if n < 4 then false else if f i = f (nxt n i) then false else lessGo n x i (x i) n (nxt n i)
theorem nxt_lt {n k : Nat} (hk : k < n) : nxt n k < n := by unfold nxt; split <;> omega
theorem prv_lt {n k : Nat} (hk : k < n) : prv n k < n := by unfold prv; split <;> omega
def dist (n i j : Nat) : Nat := if j ≤ i then i - j else i + n - j
theorem dist_nxt {n i j : Nat} (hi : i < n) (hj : j < n) (hne : j ≠ i) : dist n i (nxt n j) + 1 = dist n i j := by
  unfold dist nxt; repeat' split
  all_goals omega
theorem dist_start {n i : Nat} (hi : i < n) : dist n i (nxt n i) + 1 ≤ n := by
  unfold dist nxt; repeat' split
  all_goals omega
theorem creaseInfo : ∃ j : TypeInfo, Tryz.prog.info? 183 = some j ∧ j.size ≠ 0 := by
  have h : (Tryz.prog.info? 183).map (·.size) = some 4 := by kernel_rfl
  cases hj : Tryz.prog.info? 183 with
  | none => rw [hj] at h; cases h
  | some j => rw [hj] at h; injection h with h; exact ⟨j, rfl, by show j.size ≠ 0; rw [show j.size = 4 from h]; decide⟩
set_option maxHeartbeats 1000000 in
theorem allowed_any (w : World) (p n : Nat) (b : Nat → Nat) (x : Nat → Int) (f : Nat → Nat) (i : Nat) (h : Ring w p n b x f) (hi : i < n) (hn : n ≤ 100) (_hf : ∀ k, f k < 256) :
    Calls Tryz.prog 185 #[ptr p, ptr (b i)] w fun e w' => e = .returned (.bool (allowedB n x f i)) ∧ ∃ k, w.drewN k = w' := by
  have c1 := h.many
  have c2 := h.fold hi
  have c3 := h.next hi
  have hni := nxt_lt hi
  have c4 := h.fold hni
  by_cases h4 : n < 4
  · have hd : decide ((n : Int) < 4) = true := by simp; omega
    go_enter Tryz.func185, Tryz.ntmps185
    go_wp2
    go_quiet (fail)
    go_wp2
    go_ret
    exact ⟨ret_bool (by unfold allowedB; rw [if_pos h4]), _, rfl⟩
  · have hd : decide ((n : Int) < 4) = false := by simp; omega
    by_cases he : f i = f (nxt n i)
    · have hE : (((f i : Nat) : Int) == ((f (nxt n i) : Nat) : Int)) = true := by simp [he]
      have HE := Lib.hid he; clear he
      go_enter Tryz.func185, Tryz.ntmps185
      go_wp2
      go_quiet (fail)
      go_wp2
      go_ret
      exact ⟨ret_bool (by unfold allowedB; rw [if_neg h4, if_pos HE.out]), _, rfl⟩
    · have hE : (((f i : Nat) : Int) == ((f (nxt n i) : Nat) : Int)) = false := by simp; omega
      have HE := Lib.hid he; clear he
      go_enter Tryz.func185, Tryz.ntmps185
      go_wp2
      go_quiet (fail)
      go_wp2
      go_loopg [5] n (fun g s5 wr => ∃ m j, w.drewN m = wr ∧ j < n ∧ s5 = ptr (b j) ∧ dist n i j < g ∧ Hid (lessGo n x i (x i) n (nxt n i) = lessGo n x i (x i) g j))
      case atStart => exact ⟨_, _, rfl, hni, rfl, dist_start hi, rfl⟩
      case round =>
        obtain ⟨m, j, rfl, hj, rfl, hd, H⟩ := hrel
        cases gk with
        | zero => omega
        | succ g =>
        obtain ⟨j0, ij0, sj0⟩ := creaseInfo
        by_cases hji : j = i
        · subst hji
          have hq := run_neq_ptr_same (P := Tryz.prog) (w.drewN m) ⟨b j, 0, none⟩ Tryz.underlying179 ij0
          clear ij0
          go_wp2
          go_ret
          exact ⟨ret_bool (by unfold allowedB; rw [if_neg h4, if_neg HE.out, H.out, lessGo, if_pos rfl]), _, rfl⟩
        · have hq := run_neq_ptr_other (P := Tryz.prog) (w.drewN m) (a := ⟨b j, 0, none⟩) (b := ⟨b i, 0, none⟩) Tryz.underlying179 ij0 sj0 (by intro e; injection e with e; exact hji (h.inj _ _ hj hi e)) (h.node j hj) (h.node i hi)
          clear ij0
          have d1 := h.angle hj
          have d2 := h.angle hi
          have d3 := h.next hj
          have HJ := Lib.hid hji; clear hji
          by_cases hl : x j < x i
          · go_wp2
            go_quiet (fail)
            go_wp2
            go_ret
            exact ⟨ret_bool (by unfold allowedB; rw [if_neg h4, if_neg HE.out, H.out, lessGo, if_neg HJ.out, if_pos hl]), _, (World.drewN_drewN _ _ _).symm⟩
          · have hl2 : decide (x j < x i) = false := by simp; omega
            go_wp2
            go_quiet (fail)
            go_wp2
            go_roundg g
            case measure => omega
            case rel => exact ⟨_, nxt n j, rfl, nxt_lt hj, rfl, by have := dist_nxt hi hj HJ.out; omega, H.out.trans (by rw [lessGo, if_neg HJ.out, if_neg (by omega)])⟩
end Go.Proofs.YtkdlipbegdiaaaaGreatDoor
namespace Go.Proofs.YtkdlipbegdiaaaaGreatDoor
open Go.RowKit
/-- the cells of a slice of bytes, all in blocks below r -/
def Codes (w : World) (r : Nat) (A : Option Addr) (bs : List UInt8) : Prop :=
  bs ≠ [] → ∃ b off, A = some ⟨b, off, none⟩ ∧ b < r ∧ ∀ k c, bs[k]? = some c → w.cell? ⟨b, off + k, none⟩ = some (.int .u8 (c.toNat : Int))
theorem Codes.below {w w' : World} {r : Nat} {A : Option Addr} {bs : List UInt8} {B : Nat} (h : Codes w r A bs) (hb : Below B w w') (hr : r ≤ B) : Codes w' r A bs := by
  intro hn
  obtain ⟨b, off, e, hlt, hc⟩ := h hn
  exact ⟨b, off, e, hlt, fun k c hk => (hb.cell (by show b < B; omega)).trans (hc k c hk)⟩
theorem Codes.set_ {w : World} {r i : Nat} {A : Option Addr} {bs : List UInt8} (h : Codes w r A bs) (u : Value) : Codes (w.setCell ⟨r, i, none⟩ u) r A bs := by
  intro hn
  obtain ⟨b, off, e, hlt, hc⟩ := h hn
  refine ⟨b, off, e, hlt, fun k c hk => ?_⟩
  rw [World.cell?_of_block (w := w) (heap_setCell_other w ⟨r, i, none⟩ b u (by show b ≠ r; omega))]
  exact hc k c hk
/-- the reader in block r: the code's bytes bs, the place q -/
structure Rd (w : World) (r : Nat) (A : Option Addr) (cap : Nat) (bs : List UInt8) (q : Nat) : Prop where
  blk : Blk w r 61 #[.slice A bs.length cap, .int .i64 q]
  codes : Codes w r A bs
  len : bs.length ≤ 2000
theorem Rd.below {w w' : World} {r : Nat} {A : Option Addr} {cap : Nat} {bs : List UInt8} {q B : Nat} (h : Rd w r A cap bs q) (hb : Below B w w') (hr : r < B) : Rd w' r A cap bs q :=
  ⟨h.blk.below hb hr, h.codes.below hb (Nat.le_of_lt hr), h.len⟩
theorem wrap_small {x : Int} (h0 : 0 ≤ x) (h1 : x ≤ 1000000000000) : IntKind.i64.wrap x = x := by rw [IntKind.wrap_i64]; omega
theorem pick_wraps {z1 z2 q m3 : Nat} (h1 : z1 < 256) (h2 : z2 < 256) (hq : q ≤ 1000000) (h3 : m3 ≤ q) :
    IntKind.i64.wrap (z1 : Int) = (z1 : Int) ∧ IntKind.i64.wrap (z2 : Int) = (z2 : Int) ∧ IntKind.i64.wrap ((z1 : Int) * 131) = ((z1 : Int) * 131) ∧ IntKind.i64.wrap ((q : Int) * 7) = ((q : Int) * 7) ∧ IntKind.i64.wrap ((q : Int) * 7 + 3) = ((q : Int) * 7 + 3) ∧ IntKind.i64.wrap ((z2 : Int) * 1117) = ((z2 : Int) * 1117) ∧ IntKind.i64.wrap ((z1 : Int) * 131 + (z2 : Int) * 1117) = ((z1 : Int) * 131 + (z2 : Int) * 1117) ∧ IntKind.i64.wrap ((q : Int) * 29) = ((q : Int) * 29) ∧ IntKind.i64.wrap ((z1 : Int) * 131 + (z2 : Int) * 1117 + (q : Int) * 29) = ((z1 : Int) * 131 + (z2 : Int) * 1117 + (q : Int) * 29) ∧ IntKind.i64.wrap ((m3 : Int) * 53) = ((m3 : Int) * 53) ∧ IntKind.i64.wrap ((z1 : Int) * 131 + (z2 : Int) * 1117 + (q : Int) * 29 + (m3 : Int) * 53) = ((z1 : Int) * 131 + (z2 : Int) * 1117 + (q : Int) * 29 + (m3 : Int) * 53) := by
  refine ⟨?_, ?_, ?_, ?_, ?_, ?_, ?_, ?_, ?_, ?_, ?_⟩ <;> exact wrap_small (by omega) (by omega)
theorem ofInt_nat64 (a : Nat) (ha : a < 9223372036854775808) : (BitVec.ofInt 64 (a : Int)).toNat = a := by
  rw [BitVec.ofInt_natCast, BitVec.toNat_ofNat]; exact Nat.mod_eq_of_lt (by omega)
theorem xor_nat (a b : Nat) (ha : a < 9223372036854775808) (hb : b < 9223372036854775808) : bits .xor .i64 (a : Int) (b : Int) = ((a ^^^ b : Nat) : Int) := by
  have hx : a ^^^ b < 2 ^ 63 := Nat.xor_lt_two_pow (by omega) (by omega)
  show IntKind.i64.wrap ((BitVec.ofInt 64 (a : Int) ^^^ BitVec.ofInt 64 (b : Int)).toNat : Int) = _
  rw [BitVec.toNat_xor, ofInt_nat64 a ha, ofInt_nat64 b hb, IntKind.wrap_i64]
  omega
theorem pick_end {z1 z2 q m3 n : Nat} (h1 : z1 < 256) (h2 : z2 < 256) (hq : q ≤ 1000000) (h3 : m3 ≤ q) (hn : 0 < n) :
    ∃ k : Nat, k < n ∧ (bits .xor .i64 ((z1 : Int) * 131 + (z2 : Int) * 1117 + (q : Int) * 29 + (m3 : Int) * 53) (((z1 : Int) * 131 + (z2 : Int) * 1117 + (q : Int) * 29 + (m3 : Int) * 53) / 64)).tmod (n : Int) = (k : Int) := by
  obtain ⟨X, hX⟩ : ∃ X, X = z1 * 131 + z2 * 1117 + q * 29 + m3 * 53 := ⟨_, rfl⟩
  have e : (z1 : Int) * 131 + (z2 : Int) * 1117 + (q : Int) * 29 + (m3 : Int) * 53 = (X : Int) := by omega
  refine ⟨(X ^^^ (X / 64)) % n, Nat.mod_lt _ hn, ?_⟩
  rw [e, show (X : Int) / 64 = ((X / 64 : Nat) : Int) from by omega, xor_nat X (X / 64) (by omega) (by omega), Int.tmod_eq_emod_of_nonneg (by omega)]
  simp
set_option maxHeartbeats 2000000 in
set_option maxRecDepth 100000 in
theorem spec_pick (w : World) (r : Nat) (A : Option Addr) (cap : Nat) (bs : List UInt8) (q n : Nat) (h : Rd w r A cap bs q) (hq : q ≤ 1000000) (hn : n ≤ 1000000) :
    Calls Tryz.prog 33 #[ptr r, .int .i64 n] w fun e w' => ∃ k : Nat, e = .returned (.int .i64 k) ∧ (k < n ∨ k = 0) ∧ Rd w' r A cap bs (q + 1) ∧ w.grownBy w' (some r) := by
  have c0 := h.blk.cell 0
  have c1 := h.blk.cell 1
  have f1 := h.blk.frozen 1
  have hl := h.len
  have hset : ∀ m, Rd ((w.setCell ⟨r, 1, none⟩ (.int .i64 ((q : Int) + 1))).drewN m) r A cap bs (q + 1) := fun m =>
    ⟨(h.blk.set_ 1 _).drewN m, h.codes.set_ _, h.len⟩
  have hgr : ∀ m, w.grownBy ((w.setCell ⟨r, 1, none⟩ (.int .i64 ((q : Int) + 1))).drewN m) (some r) := fun m =>
    ⟨rfl, rfl, rfl, by simp, fun k _ hk => heap_setCell_other w ⟨r, 1, none⟩ k _ (fun e => hk (by have e' : k = r := e; rw [e']))⟩
  have b0 := (h.blk.set_ 1 (.int .i64 ((q : Int) + 1))).cell 0
  have b1 := (h.blk.set_ 1 (.int .i64 ((q : Int) + 1))).cell 1
  by_cases g0 : n < 1
  · obtain rfl : n = 0 := by omega
    go_enter Tryz.func33, Tryz.ntmps33
    go_wp2_with fail
    go_ret
    exact ⟨0, rfl, Or.inr rfl, hset 0, hgr 0⟩
  · by_cases g1 : bs.length = 0
    · go_enter Tryz.func33, Tryz.ntmps33
      go_wp2_with fail
      go_ret
      exact ⟨0, rfl, Or.inr rfl, hset 0, hgr 0⟩
    · by_cases g2 : q < bs.length
      · obtain ⟨b, off, rfl, hb, hc⟩ := (h.codes.set_ (i := 1) (.int .i64 ((q : Int) + 1))) (by intro e; rw [e] at g1; exact g1 rfl)
        have cc := hc q _ (List.getElem?_eq_getElem g2)
        obtain ⟨z, hz, hz1⟩ : ∃ z, z = bs[q].toNat ∧ z < 256 := ⟨_, rfl, bs[q].toNat_lt⟩
        rw [← hz] at cc
        have e1 : ((bs.length : Int) == 0) = false := by rw [beq_eq_false_iff_ne]; omega
        have e2 : wrap64 (z : Int) = (z : Int) := by unfold wrap64; omega
        have t1 : ((z : Int).tmod (n : Int)) = ((z % n : Nat) : Int) := by rw [Int.tmod_eq_emod_of_nonneg (by omega)]; simp
        have hlt := Nat.mod_lt z (show 0 < n by omega)
        have HN := Lib.hid (show (z % n < n ∨ z % n = 0) from Or.inl hlt)
        have HS := Lib.hid hset
        have HG := Lib.hid hgr
        clear hc hlt hz hset hgr
        go_enter Tryz.func33, Tryz.ntmps33
        go_wp2_with fail
        go_ret
        exact ⟨z % n, ret_int (by simp), HN.out, HS.out 0, HG.out 0⟩
      · obtain ⟨b, off, rfl, hb, hc⟩ := (h.codes.set_ (i := 1) (.int .i64 ((q : Int) + 1))) (by intro e; rw [e] at g1; exact g1 rfl)
        obtain ⟨m1, hm1⟩ : ∃ m, m = q % bs.length := ⟨_, rfl⟩
        obtain ⟨m2, hm2⟩ : ∃ m, m = (q * 7 + 3) % bs.length := ⟨_, rfl⟩
        obtain ⟨m3, hm3⟩ : ∃ m, m = q / bs.length := ⟨_, rfl⟩
        have l1 : m1 < bs.length := hm1 ▸ Nat.mod_lt _ (by omega)
        have l2 : m2 < bs.length := hm2 ▸ Nat.mod_lt _ (by omega)
        have l3 : m3 ≤ q := hm3 ▸ Nat.div_le_self _ _
        have cc1 := hc m1 _ (List.getElem?_eq_getElem l1)
        have cc2 := hc m2 _ (List.getElem?_eq_getElem l2)
        obtain ⟨z1, hz1, hy1⟩ : ∃ z, z = bs[m1].toNat ∧ z < 256 := ⟨_, rfl, bs[m1].toNat_lt⟩
        obtain ⟨z2, hz2, hy2⟩ : ∃ z, z = bs[m2].toNat ∧ z < 256 := ⟨_, rfl, bs[m2].toNat_lt⟩
        rw [← hz1] at cc1
        rw [← hz2] at cc2
        have e1 : ((bs.length : Int) == 0) = false := by rw [beq_eq_false_iff_ne]; omega
        have t1 : ((q : Int).tmod (bs.length : Int)) = (m1 : Int) := by rw [Int.tmod_eq_emod_of_nonneg (by omega), hm1]; simp
        have t2 : (((q : Int) * 7 + 3).tmod (bs.length : Int)) = (m2 : Int) := by rw [Int.tmod_eq_emod_of_nonneg (by omega), hm2]; simp
        have t3 : ((q : Int).tdiv (bs.length : Int)) = (m3 : Int) := by rw [Int.tdiv_eq_ediv_of_nonneg (by omega), hm3]; simp
        have t4 : ((q : Int) % (bs.length : Int)) = (m1 : Int) := by rw [hm1]; simp
        have t5 : (((q : Int) * 7 + 3) % (bs.length : Int)) = (m2 : Int) := by rw [hm2]; simp
        have t6 : ((q : Int) / (bs.length : Int)) = (m3 : Int) := by rw [hm3]; simp
        have HS := Lib.hid hset
        have HG := Lib.hid hgr
        clear hc hz1 hz2 hset hgr hm1 hm2 hm3
        go_enter Tryz.func33, Tryz.ntmps33
        go_wp2_with fail
        obtain ⟨w0, w1, w2, w3, w4, w5, w6, w7, w8, w9, w10⟩ := pick_wraps hy1 hy2 hq l3
        go_quiet (fail)
        go_wp2_with fail
        obtain ⟨k, hk1, hk2⟩ := pick_end hy1 hy2 hq l3 (show 0 < n by clear t1 t2 t3 t4 t5 t6; omega)
        go_ret
        exact ⟨k, ret_int hk2, Or.inl hk1, HS.out _, HG.out _⟩
end Go.Proofs.YtkdlipbegdiaaaaGreatDoor
namespace Go.Proofs.YtkdlipbegdiaaaaGreatDoor
open Go.RowKit
theorem codes_of_row {w : World} {a : Option Addr} {len cap : Nat} {zs : List Int}
    (h : (a = none ∧ len = 0 ∧ cap = 0 ∧ zs = []) ∨
      ∃ x, a = some x ∧ len ≤ cap ∧ cap ≤ maxLen ∧ zs.length = cap ∧ (∀ i, i < zs.length → w.cell? (x.add i) = some (.int .u8 (zs.getD i 0))) ∧ ∀ n ∈ zs, (Lit.int .u8 n).wf = true) :
    ∃ bs : List UInt8, bs.length = len ∧ Codes w w.heap.size a bs ∧ len ≤ cap ∧ cap ≤ maxLen := by
  rcases h with ⟨rfl, rfl, rfl, rfl⟩ | ⟨x, rfl, hl, hm, hz, hc, hw⟩
  · exact ⟨[], rfl, fun h => absurd rfl h, Nat.le_refl _, by unfold maxLen; omega⟩
  · refine ⟨(zs.take len).map (fun n => UInt8.ofNat n.toNat), by rw [List.length_map, List.length_take]; omega, fun hn => ?_, hl, hm⟩
    have h0 : 0 < zs.length := by
      cases zs with
      | nil => simp at hn
      | cons y r => simp
    obtain ⟨b, off, sp⟩ := x
    have c0 := hc 0 h0
    have hsp : sp = none := by simpa [Addr.add] using World.cell?_spot c0
    subst hsp
    refine ⟨b, off, rfl, World.block_lt_of_cell? _ _ c0, fun k c hk => ?_⟩
    rw [List.getElem?_map, List.getElem?_take] at hk
    split at hk
    · next hk' =>
      have hkz : k < zs.length := by omega
      have := hc k hkz
      rw [Addr.add_lit] at this
      rw [this]
      rw [List.getElem?_eq_getElem hkz] at hk
      simp only [Option.map_some, Option.some.injEq] at hk
      have hwk := hw zs[k] (List.getElem_mem hkz)
      have hb : 0 ≤ zs[k] ∧ zs[k] < 256 := by
        simp [Lit.wf, IntKind.min, IntKind.max, IntKind.bits, IntKind.signed] at hwk
        omega
      rw [List.getD_eq_getElem?_getD, List.getElem?_eq_getElem hkz, ← hk]
      simp only [Option.getD_some]
      congr 2
      rw [UInt8.toNat_ofNat_of_lt' (by simp [UInt8.size]; omega)]
      omega
    · cases hk
end Go.Proofs.YtkdlipbegdiaaaaGreatDoor
namespace Go.Proofs.YtkdlipbegdiaaaaGreatDoor
open Go.RowKit
theorem Codes.take {w : World} {r : Nat} {A : Option Addr} {bs : List UInt8} (h : Codes w r A bs) (n : Nat) : Codes w r A (bs.take n) := by
  intro hn
  obtain ⟨b, off, e, hlt, hc⟩ := h (by intro e; rw [e] at hn; simp at hn)
  refine ⟨b, off, e, hlt, fun k c hk => hc k c ?_⟩
  rw [List.getElem?_take] at hk
  split at hk
  · exact hk
  · cases hk
set_option maxHeartbeats 1000000 in
theorem spec_l6Open (w : World) (A : Option Addr) (cap : Nat) (bs : List UInt8) (h : Codes w w.heap.size A bs) (hl : bs.length ≤ 1048576) (hcap : bs.length ≤ cap) (hcm : cap ≤ maxLen) :
    Calls Tryz.prog 19 #[.slice A bs.length cap] w fun e w' => ∃ bs', e = .returned (ptr w.heap.size) ∧ Rd w' w.heap.size A cap bs' 0 ∧ Below w.heap.size w w' := by
  unfold maxLen at hcm
  have hb : ∀ o, Below w.heap.size w (w.alloc o) := fun o => (Below.refl _ _).alloc (Nat.le_refl _) o
  by_cases g : bs.length ≤ 2000
  · have d1 : decide ((2000 : Int) < (bs.length : Int)) = false := by simp; omega
    go_enter Tryz.func19, Tryz.ntmps19
    go_wp2_with fail
    go_ret
    exact ⟨bs, rfl, ⟨Blk.new w _ _, h.below (hb _) (Nat.le_refl _), g⟩, hb _⟩
  · have d1 : decide ((2000 : Int) < (bs.length : Int)) = true := by simp; omega
    obtain ⟨b, off, rfl, _, _⟩ := h (by intro e; rw [e] at g; simp at g)
    have ht : (bs.take 2000).length = 2000 := by simp; omega
    go_enter Tryz.func19, Tryz.ntmps19
    go_wp2_with fail
    go_ret
    exact ⟨bs.take 2000, rfl, ⟨by rw [ht]; exact Blk.new w _ _, (h.take 2000).below (hb _) (Nat.le_refl _), by omega⟩, hb _⟩
set_option maxHeartbeats 1000000 in
theorem spec_of (w : World) (r : Nat) (A : Option Addr) (cap : Nat) (bs : List UInt8) (q g c : Nat) (ss : List ByteArray) (h : Rd w r A cap bs q) (hq : q ≤ 1000000) (h0 : 0 < ss.length) (hn : ss.length ≤ 1000000) (hg : g ≠ r) (hgs : g < w.heap.size)
    (hs : ∀ k s, ss[k]? = some s → w.cell? ⟨g, k, none⟩ = some (.string s)) :
    Calls Tryz.prog 62 #[ptr r, .slice (some ⟨g, 0, none⟩) ss.length c] w fun e w' => ∃ s, s ∈ ss ∧ e = .returned (.string s) ∧ Rd w' r A cap bs (q + 1) ∧ w.grownBy w' (some r) := by
  go_enter Tryz.func62, Tryz.ntmps62
  go_wp2_with fail
  refine (spec_pick w r A cap bs q ss.length h hq hn).mono ?_
  rintro e w1 ⟨k, rfl, hk, R1, hgr⟩
  have hlt : k < ss.length := by omega
  have hc := (hgr.cell_far ⟨g, k, none⟩ hgs (fun e => hg (Option.some.inj e))).trans (hs k _ (List.getElem?_eq_getElem hlt))
  have hm := List.getElem_mem hlt
  obtain ⟨s, hs1, hs2⟩ : ∃ s, s = ss[k] ∧ s ∈ ss := ⟨_, rfl, hm⟩
  rw [← hs1] at hc
  clear hs1 hm hs hk
  go_wp2_with fail
  go_ret
  exact ⟨s, hs2, rfl, R1, hgr⟩
end Go.Proofs.YtkdlipbegdiaaaaGreatDoor
