/- For rows that list variables: the wrap that hands on both what they hold and the world's shape; the cell of internal/bytealg.MaxLen. No condition. The head of the translation, letter by letter: so that the closed facts on it are cheap. No condition. Plain functions on lists: what the small tests of angles, folds and lengths answer. No program, no condition. A region that draws its order, by an invariant over what has come up. No program, no condition. A region that draws its order, told by what each of its values is. No program, no condition. Texts joined by a byte and split at it. No program, no condition. Numbers told by words, and the kinds of lines of the desk. No program, no condition. -/
import Derived.Test.YtkdlipbegdiaaaaGreatDoorRows
import Derived.ProofKit
import Derived.SizedLaws
import Derived.Handed
import Derived.LaidMore
import Derived.Lay
import Derived.Stop.Joined
import Derived.Shelf.Vars
import Derived.WalkKit
import Derived.Deep.RegionHeld3
import Derived.Below
import Derived.Lib.SplitLaws
import Derived.Lib.CountLaws
import Derived.Lib.Split
import Derived.Lib.ItoaNum
namespace Go.Proofs.YtkdlipbegdiaaaaGreatDoor
open Go
section
variable {H : Type} {enc : TypeId × Value → H}
theorem returns_laid_shaped {a : Assume} {C : Checked} {os : Os} {f : FuncId} {fn : Func} {s : ChangeSpec} {conds : List PathCond} {apart fresh handsOn again : Bool} {X : World → Array Value → Prop}
    (hX : ∀ (w w' : World) (args : Array Value), w.heap = w'.heap → X w args → X w' args)
    (own : ownKnob C.prog.godebug = none) (started : os.Started) (noInit : C.prog.inits.idxOf? f = none) (hfn : C.prog.funcs[f]? = some fn)
    (witness : ∃ (w : World) (tape : Tape) (i : Input), w.os = os ∧ (w.forCall tape i).Shaped C.prog ∧ i.vars = [] ∧ Input.okWide C.prog (w.forCall tape i) .any w.heap.size f i ∧
      ((s.pre enc C.prog fn conds apart (w.forCall tape i).memory i.args ∧ X (w.forCall tape i).memory i.args) ∧ sizedMet enc C.prog fn (OpenSpec.ofChange s) apart (w.forCall tape i).memory i.args) ∧ a.holds C.prog (lone (Frame.enter C.prog f i.args .normal) [] (w.forCall tape i)))
    (contract : ∀ (W : World) (base : Nat) (args : Array Value) (ds gs : List (DataW H)) (before : List MemPlace),
      (∀ (j : Nat) t v, fn.params[j]? = some t → args[j]? = some v → Value.okWide C.prog W .any base t v) →
      DataW.Whole enc C.prog fn.params.toList s.vars apart W args.toList ds gs before → X W args → W.ShapedOpen C.prog →
      Calls C.prog f args W fun e W' => ∃ v, e = .returned v ∧ s.post enc C.prog fn apart fresh handsOn again W args v W') :
    ReturnsInHanded a C os f .any (fun w args => (s.pre enc C.prog fn conds apart w args ∧ X w args) ∧ sizedMet enc C.prog fn (OpenSpec.ofChange s) apart w args) (s.post enc C.prog fn apart fresh handsOn again) := by
  refine returnsInHanded_of_calls own started noInit witness ?_
  intro w tape i _ hsh _ hok hpre _
  obtain ⟨_, _, _, fn', hfn', _, _, _, _, hval⟩ := hok
  obtain rfl : fn' = fn := Option.some.inj (hfn'.symm.trans hfn)
  obtain ⟨⟨⟨ds, gs, before, hw, _⟩, hx⟩, _⟩ := hpre
  refine (contract (w.forCall tape i) w.heap.size i.args ds gs before hval (DataW.Whole.of_heap (w' := w.forCall tape i) (by rfl) hw) (hX _ _ _ (by rfl) hx) hsh).mono fun e W' ⟨v, he, hp⟩ => ?_
  subst he
  exact ChangeSpec.post_blind hp
end
theorem max_cell {W : World} (h : W.ShapedOpen Tryz.prog) : ∃ m, W.cell? ⟨0, 0, none⟩ = some (.int .i64 m) :=
  cell_of_shapedOpen_int (zero := #[.int .i64 0]) (t := 3) h (of_decide_eq_true (by kernel_rfl)) (by kernel_rfl) rfl (by kernel_rfl) (by kernel_rfl) Tryz.underlying3
end Go.Proofs.YtkdlipbegdiaaaaGreatDoor
namespace Go.Proofs.YtkdlipbegdiaaaaGreatDoor
def headNums : List Nat := [104, 97, 114, 110, 101, 115, 115, 32, 53, 57, 98, 53, 55, 56, 50, 54, 54, 54, 98, 100, 48, 53, 98, 97, 97, 52, 56, 54, 55, 50, 98, 97, 102, 56, 100, 102, 52, 49, 49, 53, 50, 49, 97, 56, 101, 52, 98, 56, 50, 50, 49, 55, 99, 101, 48, 50, 48, 100, 55, 56, 56, 53, 57, 52, 54, 100, 100, 49, 50, 53, 101, 56, 32, 99, 117, 116, 32, 97, 116, 32, 108, 111, 111, 112, 46, 101, 120, 97, 109, 112, 108, 101, 47, 102, 108, 97, 116, 102, 111, 108, 100, 105, 110, 103, 47, 108, 97, 119, 115, 46, 70, 110, 69, 120, 101, 99, 117, 116, 101, 83, 116, 114, 105, 112, 32, 108, 111, 111, 112, 46, 101, 120, 97, 109, 112, 108, 101, 47, 102, 108, 97, 116, 102, 111, 108, 100, 105, 110, 103, 47, 108, 97, 119, 115, 46, 70, 110, 69, 120, 97, 99, 116, 69, 120, 101, 99, 117, 116, 101, 32, 108, 111, 111, 112, 46, 101, 120, 97, 109, 112, 108, 101, 47, 102, 108, 97, 116, 102, 111, 108, 100, 105, 110, 103, 47, 108, 97, 119, 115, 46, 70, 110, 69, 120, 101, 99, 117, 116, 101, 78, 111, 110, 101, 32, 108, 111, 111, 112, 46, 101, 120, 97, 109, 112, 108, 101, 47, 102, 108, 97, 116, 102, 111, 108, 100, 105, 110, 103, 47, 108, 97, 119, 115, 46, 70, 110, 69, 120, 101, 99, 117, 116, 101, 87, 104, 97, 116, 32, 108, 111, 111, 112, 46, 101, 120, 97, 109, 112, 108, 101, 47, 102, 108, 97, 116, 102, 111, 108, 100, 105, 110, 103, 47, 108, 97, 119, 115, 46, 70, 110, 69, 120, 101, 99, 117, 116, 101, 84, 119, 105, 99, 101]
def headL : List Char := headNums.map Char.ofNat
theorem head_str : Tryz.prog.initOrder = String.ofList headL := by kernel_rfl
theorem head_toList : Tryz.prog.initOrder.toList = headL := by rw [head_str]; exact String.toList_ofList
def headWords : List (List Nat) := [[99, 117, 116], [97, 116], [108, 111, 111, 112, 46, 101, 120, 97, 109, 112, 108, 101, 47, 102, 108, 97, 116, 102, 111, 108, 100, 105, 110, 103, 47, 108, 97, 119, 115, 46, 70, 110, 69, 120, 101, 99, 117, 116, 101, 83, 116, 114, 105, 112], [108, 111, 111, 112, 46, 101, 120, 97, 109, 112, 108, 101, 47, 102, 108, 97, 116, 102, 111, 108, 100, 105, 110, 103, 47, 108, 97, 119, 115, 46, 70, 110, 69, 120, 97, 99, 116, 69, 120, 101, 99, 117, 116, 101], [108, 111, 111, 112, 46, 101, 120, 97, 109, 112, 108, 101, 47, 102, 108, 97, 116, 102, 111, 108, 100, 105, 110, 103, 47, 108, 97, 119, 115, 46, 70, 110, 69, 120, 101, 99, 117, 116, 101, 78, 111, 110, 101], [108, 111, 111, 112, 46, 101, 120, 97, 109, 112, 108, 101, 47, 102, 108, 97, 116, 102, 111, 108, 100, 105, 110, 103, 47, 108, 97, 119, 115, 46, 70, 110, 69, 120, 101, 99, 117, 116, 101, 87, 104, 97, 116], [108, 111, 111, 112, 46, 101, 120, 97, 109, 112, 108, 101, 47, 102, 108, 97, 116, 102, 111, 108, 100, 105, 110, 103, 47, 108, 97, 119, 115, 46, 70, 110, 69, 120, 101, 99, 117, 116, 101, 84, 119, 105, 99, 101]]
theorem head_words : behindMainWord (wordsSigns Tryz.prog.initOrder.toList) = headWords.map (·.map Char.ofNat) := by
  rw [head_toList]
  kernel_rfl
/-- what 'mayEnter', 'liftsFinal', 'make' and 'headLifts' make of the head's words: found by Lean itself -/
def mayF : { F : Program → List (List Char) → Bool // ∀ P : Program, P.mayEnter = F P (behindMainWord (wordsSigns P.initOrder.toList)) } := by
  constructor
  case property =>
    intro P
    unfold Program.mayEnter
    generalize behindMainWord (wordsSigns P.initOrder.toList) = ws
    exact rfl
def liftsF : { F : Program → List (List Char) → List String // ∀ P : Program, P.headLifts = F P (behindMainWord (wordsSigns P.initOrder.toList)) } := by
  constructor
  case property =>
    intro P
    unfold Program.headLifts
    generalize behindMainWord (wordsSigns P.initOrder.toList) = ws
    exact rfl
def finalF : { F : Program → List (List Char) → List String → Bool // ∀ P : Program, P.liftsFinal = F P (behindMainWord (wordsSigns P.initOrder.toList)) P.headLifts } := by
  constructor
  case property =>
    intro P
    unfold Program.liftsFinal
    generalize P.headLifts = l
    generalize behindMainWord (wordsSigns P.initOrder.toList) = ws
    exact rfl
def makeF : { F : Program → List (List Char) → List String → Option Make // ∀ P : Program, P.make = F P (behindMainWord (wordsSigns P.initOrder.toList)) P.headLifts } := by
  constructor
  case property =>
    intro P
    unfold Program.make
    generalize P.headLifts = l
    generalize behindMainWord (wordsSigns P.initOrder.toList) = ws
    exact rfl
theorem may_at {P : Program} {ws : List (List Char)} (h : behindMainWord (wordsSigns P.initOrder.toList) = ws) : P.mayEnter = mayF.1 P ws := by rw [← h]; exact mayF.2 P
theorem lifts_at {P : Program} {ws : List (List Char)} (h : behindMainWord (wordsSigns P.initOrder.toList) = ws) : P.headLifts = liftsF.1 P ws := by rw [← h]; exact liftsF.2 P
theorem final_at {P : Program} {ws : List (List Char)} {l : List String} (h : behindMainWord (wordsSigns P.initOrder.toList) = ws) (h2 : P.headLifts = l) : P.liftsFinal = finalF.1 P ws l := by rw [← h, ← h2]; exact finalF.2 P
theorem make_at {P : Program} {ws : List (List Char)} {l : List String} (h : behindMainWord (wordsSigns P.initOrder.toList) = ws) (h2 : P.headLifts = l) : P.make = makeF.1 P ws l := by rw [← h, ← h2]; exact makeF.2 P
theorem head_lifts : Tryz.prog.headLifts = [] := (lifts_at head_words).trans (by kernel_rfl)
theorem head_mayEnter : Tryz.prog.mayEnter = true := (may_at head_words).trans (by kernel_rfl)
theorem head_liftsFinal : Tryz.prog.liftsFinal = false := (final_at head_words head_lifts).trans (by kernel_rfl)
theorem head_make : Tryz.prog.make = some .cut := (make_at head_words head_lifts).trans (by kernel_rfl)
end Go.Proofs.YtkdlipbegdiaaaaGreatDoor
namespace Go.Proofs.YtkdlipbegdiaaaaGreatDoor
/-- the angles of a vertex -/
def avB (xs : List Int) : Bool := decide (xs.length % 2 = 0) && decide (2 ≤ xs.length) && decide (xs.length ≤ 10) && xs.all (fun x => decide (1 ≤ x) && decide (x ≤ 360)) && decide (xs.sum = 360)
def sumGo : Int → List Int → Int
  | s, [] => s
  | s, x :: r => sumGo (s + x) r
theorem sumGo_eq (s : Int) (xs : List Int) : sumGo s xs = s + xs.sum := by
  induction xs generalizing s with
  | nil => simp [sumGo]
  | cons x r ih => simp [sumGo, ih]; omega
def avGo : Int → List Int → Bool
  | s, [] => decide (s = 360)
  | s, x :: r => if x < 1 then false else if 360 < x then false else avGo (s + x) r
theorem avGo_eq (s : Int) (xs : List Int) : avGo s xs = (xs.all (fun x => decide (1 ≤ x) && decide (x ≤ 360)) && decide (s + xs.sum = 360)) := by
  induction xs generalizing s with
  | nil => simp [avGo]
  | cons x r ih =>
    rw [avGo, ih]
    by_cases h1 : x < 1
    · simp [h1]; intro h; omega
    · by_cases h2 : 360 < x
      · simp [h1, h2]; intro _ h; omega
      · rw [if_neg h1, if_neg h2]
        have e1 : 1 ≤ x := by omega
        have e2 : x ≤ 360 := by omega
        have e3 : s + (x :: r).sum = s + x + r.sum := by simp; omega
        rw [e3]
        simp [e1, e2]
theorem avB_go {xs : List Int} (h1 : xs.length % 2 = 0) (h2 : 2 ≤ xs.length) (h3 : xs.length ≤ 10) : avB xs = avGo 0 xs := by
  rw [avGo_eq]; unfold avB; simp [h1, h2, h3]
theorem avB_parts {xs : List Int} (h : avB xs = true) : xs.length % 2 = 0 ∧ 2 ≤ xs.length ∧ xs.length ≤ 10 ∧ (∀ x ∈ xs, 1 ≤ x ∧ x ≤ 360) ∧ xs.sum = 360 := by
  unfold avB at h
  simp only [Bool.and_eq_true, decide_eq_true_eq, List.all_eq_true] at h
  obtain ⟨⟨⟨⟨a, b⟩, c⟩, d⟩, e⟩ := h
  exact ⟨a, b, c, d, e⟩
/-- sums of every other number, with alternating signs -/
def balGo (k : Nat) (s : Int) : List Int → Int
  | [] => s
  | x :: r => balGo (k + 1) (if k % 2 = 0 then s + x else s - x) r
def balB (xs : List Int) : Bool := decide (balGo 0 0 xs = 0)
def acB (xs : List Int) : Bool := avB xs && balB xs
/-- folds are M or V -/
def mvB (c : UInt8) : Bool := decide (c.toNat = 77) || decide (c.toNat = 86)
def fvB (fs : List UInt8) (n : Int) : Bool := decide ((fs.length : Int) = n) && fs.all mvB
/-- lengths of parts -/
def lvB (xs : List Int) : Bool := decide (1 ≤ xs.length) && decide (xs.length ≤ 6) && xs.all (fun x => decide (1 ≤ x) && decide (x ≤ 1000))
theorem lvB_parts {xs : List Int} (h : lvB xs = true) : 1 ≤ xs.length ∧ xs.length ≤ 6 ∧ ∀ x ∈ xs, 1 ≤ x ∧ x ≤ 1000 := by
  unfold lvB at h
  simp only [Bool.and_eq_true, decide_eq_true_eq, List.all_eq_true] at h
  obtain ⟨⟨a, b⟩, c⟩ := h
  exact ⟨a, b, c⟩
end Go.Proofs.YtkdlipbegdiaaaaGreatDoor
namespace Go.Proofs.YtkdlipbegdiaaaaGreatDoor
theorem ready_set_lt {ops : Array Oper} {l : Array Bool} {i : Nat} (hi : i < ops.size) (h0 : l.getD i true = false) :
    (List.range ops.size).countP (fun k => !(l.setIfInBounds i true).getD k true) < (List.range ops.size).countP (fun k => !l.getD k true) := by
  have key : ∀ L : List Nat, (L.countP (fun k => !(l.setIfInBounds i true).getD k true) ≤ L.countP (fun k => !l.getD k true)) ∧ (i ∈ L → L.countP (fun k => !(l.setIfInBounds i true).getD k true) < L.countP (fun k => !l.getD k true)) := by
    intro L
    induction L with
    | nil => exact ⟨Nat.le_refl _, fun h => by cases h⟩
    | cons k r ih =>
      have hk : (!(l.setIfInBounds i true).getD k true) = true → (!l.getD k true) = true ∧ k ≠ i := by
        intro h
        by_cases e : i = k
        · subst e
          exfalso
          rcases Nat.lt_or_ge i l.size with hl | hl
          · simp [hl] at h
          · simp [hl] at h
        · rw [getD_set_ne true e] at h
          exact ⟨h, fun q => e q.symm⟩
      rw [List.countP_cons, List.countP_cons]
      constructor
      · have := ih.1
        by_cases h : (!(l.setIfInBounds i true).getD k true) = true
        · rw [if_pos h, if_pos (hk h).1]; omega
        · rw [if_neg h]; omega
      · intro hm
        rcases List.mem_cons.1 hm with e | hm
        · have h1 : ¬ (!(l.setIfInBounds i true).getD k true) = true := fun h => (hk h).2 e.symm
          have h2 : (!l.getD k true) = true := by rw [← e, h0]; rfl
          rw [if_neg h1, if_pos h2]
          have := ih.1
          omega
        · have := ih.2 hm
          by_cases h : (!(l.setIfInBounds i true).getD k true) = true
          · rw [if_pos h, if_pos (hk h).1]; omega
          · rw [if_neg h]; omega
  exact (key _).2 (List.mem_range.2 hi)
/-- a fact of each operation -/
def AllOps (F : Nat → Oper → Prop) : Nat → List Oper → Prop
  | _, [] => True
  | n, o :: r => F n o ∧ AllOps F (n + 1) r
theorem AllOps.cons {F : Nat → Oper → Prop} {n : Nat} {o : Oper} {r : List Oper} (h : F n o) (hr : AllOps F (n + 1) r) : AllOps F n (o :: r) := ⟨h, hr⟩
theorem AllOps.nil {F : Nat → Oper → Prop} {n : Nat} : AllOps F n [] := trivial
theorem AllOps.at_ {F : Nat → Oper → Prop} {l : List Oper} {n i : Nat} {o : Oper} (h : AllOps F n l) (ho : l[i]? = some o) : F (n + i) o := by
  induction l generalizing n i with
  | nil => simp at ho
  | cons x r ih =>
    cases i with
    | zero => simp at ho; subst ho; exact h.1
    | succ i =>
      have := ih h.2 (by simpa using ho)
      rw [show n + (i + 1) = n + 1 + i from by omega]; exact this
/-- what an operation needs of those ahead of it -/
def Deps (o : Oper) (L : Nat → Bool) : Prop := ∀ e ∈ o.after, Region.binds .any e = true → L e.on = true
theorem wp_region_inv {P : Program} {ops : Array Oper} {Q : Exit → Act → World → Prop} {id : Nat} {a : Act} {w : World} (hm : P.follows .mixedOrders = true)
    (hac : AllOps (fun i o => ∀ e ∈ o.after, Region.binds .any e = true → e.on < i) 0 ops.toList) (J : (Nat → Bool) → Act → World → Prop) (h0 : J (fun k => decide (ops.size ≤ k)) a w.drew)
    (hs : AllOps (fun i o => ∀ L b v, J L b v → L i = false → Deps o L → ∀ K : Act → World → Prop, Shut (∀ b' v', J (fun k => k == i || L k) b' v' → K b' v') →
      if Region.wanted o (yielded ops b.tmps) = true then Oper.wp P o b v K Q else K (b.put o.dst undef) v) 0 ops.toList)
    (he : ∀ L b v, J L b v → (∀ i, i < ops.size → L i = true) → Q .normal b v) : (Code.region id ops true).wp P Q a w := by
  refine wp_region_held_drew (S := fun _ => True) hm trivial (fun _ => ?_)
  have nxt : ∀ (l : Array Bool) (i : Nat), l.size = ops.size → i < ops.size → (fun k => (l.setIfInBounds i true).getD k true) = (fun k => k == i || l.getD k true) := by
    intro l i hl hi
    funext k
    by_cases e : i = k
    · subst e
      simp [hl, hi]
    · rw [getD_set_ne true e]
      have : (k == i) = false := by rw [beq_eq_false_iff_ne]; exact fun q => e q.symm
      rw [this, Bool.false_or]
  have done : ∀ (l : Array Bool), Region.ready .any ops l = [] → ∀ i, i < ops.size → l.getD i true = true := by
    intro l hr i
    induction i using Nat.strongRecOn with
    | ind i ih =>
      intro hi
      cases h : l.getD i true with
      | true => rfl
      | false =>
        exfalso
        have ho : ops[i]? = some ops[i] := Array.getElem?_eq_getElem hi
        have hin : i ∈ Region.ready .any ops l := by
          refine mem_ready.2 ⟨h, _, ho, fun e he hb => ?_⟩
          have hlt := hac.at_ (n := 0) (i := i) (o := ops[i]) (by simp [hi]) e he hb
          have := ih e.on (by omega) (by omega)
          rcases Nat.lt_or_ge e.on l.size with hz | hz
          · simpa [hz] using this
          · exfalso
            have hiz : l.getD i true = true := by simp [Array.getElem?_eq_none (show l.size ≤ i by omega)]
            rw [hiz] at h; cases h
        rw [hr] at hin
        cases hin
  have key : ∀ (fuel : Nat) (l : Array Bool) (b : Act) (v : World), l.size = ops.size → (List.range ops.size).countP (fun k => !l.getD k true) ≤ fuel → J (fun k => l.getD k true) b v → wpAnyH P .any ops Q (fun _ => True) fuel l b v := by
    intro fuel
    induction fuel with
    | zero =>
      intro l b v hl hc hJ
      have hall : ∀ i, i < ops.size → l.getD i true = true := by
        intro i hi
        have h0 : (List.range ops.size).countP (fun k => !l.getD k true) = 0 := by omega
        rw [List.countP_eq_zero] at h0
        have := h0 i (List.mem_range.2 hi)
        simpa using this
      refine ⟨?_, he _ b v hJ hall⟩
      apply List.eq_nil_iff_forall_not_mem.2
      intro i hi
      obtain ⟨h1, o, ho, _⟩ := mem_ready.1 hi
      have hlt : i < ops.size := (Array.getElem?_eq_some_iff.1 ho).1
      rw [hall i hlt] at h1
      cases h1
    | succ fuel ih =>
      intro l b v hl hc hJ
      refine ⟨fun hr => he _ b v hJ (done l hr), fun i hi => ?_⟩
      obtain ⟨h1, o, ho, hd⟩ := mem_ready.1 hi
      have hlt : i < ops.size := (Array.getElem?_eq_some_iff.1 ho).1
      refine wpOp_step ho (fun K hK => ?_)
      have hs1 := hs.at_ (n := 0) (i := i) (o := o) (by simpa using ho)
      rw [Nat.zero_add] at hs1
      refine hs1 _ b v hJ h1 (fun e he hb => ?_) K (fun b' v' hJ' => hK b' v' ⟨trivial, ih _ b' v' (by simpa using hl) ?_ ?_⟩)
      · have := hd e he hb
        rcases Nat.lt_or_ge e.on l.size with hz | hz
        · simpa [hz] using this
        · simp [Array.getElem?_eq_none hz] at this
      · have := ready_set_lt (l := l) hlt h1
        omega
      · rw [nxt l i hl hlt]; exact hJ'
  refine key ops.size _ a w.drew (by simp) ?_ ?_
  · refine Nat.le_trans List.countP_le_length ?_
    rw [List.length_range]; exact Nat.le_refl _
  · have e : (fun k => (Array.replicate ops.size false).getD k true) = fun k => decide (ops.size ≤ k) := by
      funext k
      by_cases h : k < ops.size
      · have h2 : ¬ ops.size ≤ k := by omega
        simp [h, h2]
      · have h2 : ops.size ≤ k := by omega
        simp [h, h2]
    rw [e]; exact h0
end Go.Proofs.YtkdlipbegdiaaaaGreatDoor
namespace Go.Proofs.YtkdlipbegdiaaaaGreatDoor
open Go.RowKit
/-- one of a region's values put in -/
def updU (U : Nat → Value) (i : Nat) (v : Value) : Nat → Value := fun k => if k = i then v else U k
/-- what holds along a region: each value that has come up is as told, and what lay below B still lies there -/
structure JR (mk : (Nat → Value) → Act) (F : Nat → Value → World → Prop) (B : Nat) (w0 : World) (n : Nat) (L : Nat → Bool) (b : Act) (W : World) : Prop where
  ex : ∃ U, b = mk U ∧ (∀ i, i < n → L i = true → F i (U i) W) ∧ Below B w0 W ∧ B ≤ W.heap.size
theorem JR.to {mk : (Nat → Value) → Act} {F : Nat → Value → World → Prop} {B : Nat} {w0 : World} {n : Nat} {L : Nat → Bool} {b b' : Act} {W : World} (e : b = b') (h : JR mk F B w0 n L b W) : JR mk F B w0 n L b' W := e ▸ h
theorem JR.next {mk : (Nat → Value) → Act} {F : Nat → Value → World → Prop} {B : Nat} {w0 : World} {n : Nat} {L : Nat → Bool} {U : Nat → Value} {W W' : World} (hm : ∀ i v W W', F i v W → Below W.heap.size W W' → F i v W') (i : Nat) (v : Value)
    (hF : ∀ i, i < n → L i = true → F i (U i) W) (hw : Below B w0 W) (hz : B ≤ W.heap.size) (hg : Below W.heap.size W W') (hv : F i v W') : JR mk F B w0 n (fun k => k == i || L k) (mk (updU U i v)) W' := by
  refine ⟨updU U i v, rfl, fun k hk hl => ?_, hw.trans (hg.mono hz), Nat.le_trans hz hg.size⟩
  unfold updU
  by_cases e : k = i
  · subst e; rw [if_pos rfl]; exact hv
  · rw [if_neg e]
    have : L k = true := by
      simp only [Bool.or_eq_true, beq_iff_eq] at hl
      rcases hl with q | q
      · exact absurd q e
      · exact q
    exact hm _ _ _ _ (hF k hk this) hg
end Go.Proofs.YtkdlipbegdiaaaaGreatDoor
namespace Go.Proofs.YtkdlipbegdiaaaaGreatDoor
open Go
/-- a text out of its bytes -/
abbrev btj (cs : List UInt8) : ByteArray := ⟨cs.toArray⟩
/-- pieces with a byte between them -/
def joinC (c : UInt8) : List (List UInt8) → List UInt8
  | [] => []
  | [x] => x
  | x :: y :: r => x ++ c :: joinC c (y :: r)
theorem index_none {a : List UInt8} {c : UInt8} (h : c ∉ a) : Lib.index a [c] = -1 := by
  induction a with
  | nil => rfl
  | cons b l ih =>
    have h1 : c ≠ b := fun e => h (by simp [e])
    have h2 : c ∉ l := fun e => h (by simp [e])
    have hp : [c].isPrefixOf (b :: l) = false := by simp [List.isPrefixOf, h1]
    unfold Lib.index
    rw [hp, ih h2]; rfl
theorem index_first {a r : List UInt8} {c : UInt8} (h : c ∉ a) : Lib.index (a ++ c :: r) [c] = (a.length : Int) := by
  induction a with
  | nil =>
    show Lib.index (c :: r) [c] = 0
    unfold Lib.index
    have hp : [c].isPrefixOf (c :: r) = true := by simp [List.isPrefixOf]
    rw [hp]; rfl
  | cons b l ih =>
    have h1 : c ≠ b := fun e => h (by simp [e])
    have h2 : c ∉ l := fun e => h (by simp [e])
    have hp : [c].isPrefixOf (b :: (l ++ c :: r)) = false := by simp [List.isPrefixOf, h1]
    show Lib.index (b :: (l ++ c :: r)) [c] = _
    unfold Lib.index
    rw [hp, ih h2]
    have hne : ((l.length : Int) == -1) = false := by rw [beq_eq_false_iff_ne]; omega
    simp only [Bool.false_eq_true, if_false, hne, List.length_cons]
    omega
theorem indexB_none {a : List UInt8} {c : UInt8} (h : c ∉ a) : Lib.indexB (btj a) (btj [c]) = -1 := index_none h
theorem indexB_first {a r : List UInt8} {c : UInt8} (h : c ∉ a) : Lib.indexB (btj (a ++ c :: r)) (btj [c]) = (a.length : Int) := index_first h
theorem ext_head (a r : List UInt8) : (btj (a ++ r)).extract 0 a.length = btj a := by
  apply ByteArray.ext; apply Array.ext'
  rw [ByteArray.data_extract, Array.toList_extract, List.extract_eq_take_drop]
  show ((a ++ r).drop 0).take (a.length - 0) = a
  simp
theorem ext_tail (a r : List UInt8) (c : UInt8) : (btj (a ++ c :: r)).extract (a.length + 1) (btj (a ++ c :: r)).size = btj r := by
  apply ByteArray.ext; apply Array.ext'
  rw [ByteArray.data_extract, Array.toList_extract, List.extract_eq_take_drop]
  have hs : (btj (a ++ c :: r)).size = a.length + 1 + r.length := by show (List.toArray _).size = _; simp; omega
  rw [hs]
  show ((a ++ c :: r).drop (a.length + 1)).take (a.length + 1 + r.length - (a.length + 1)) = r
  rw [List.drop_append, List.drop_of_length_le (by omega)]
  simp
theorem count_join (c : UInt8) (xs : List (List UInt8)) (h0 : xs ≠ []) (hx : ∀ x ∈ xs, c ∉ x) : Lib.countB (btj (joinC c xs)) (btj [c]) + 1 = xs.length := by
  induction xs with
  | nil => exact absurd rfl h0
  | cons x r ih =>
    cases r with
    | nil =>
      show Lib.countB (btj x) (btj [c]) + 1 = 1
      rw [Lib.countB_miss _ _ (indexB_none (hx x (by simp)))]
    | cons y r =>
      show Lib.countB (btj (x ++ c :: joinC c (y :: r))) (btj [c]) + 1 = _
      rw [Lib.countB_hit _ (btj [c]) x.length (show 1 ≤ (btj [c]).size from Nat.le_refl 1) (indexB_first (hx x (by simp)))]
      have e : (btj [c]).size = 1 := rfl
      rw [e, ext_tail]
      have := ih (by simp) (fun z hz => hx z (by simp at hz ⊢; exact Or.inr hz))
      simp only [List.length_cons] at this ⊢
      omega
theorem split_join (c : UInt8) (xs : List (List UInt8)) (h0 : xs ≠ []) (hx : ∀ x ∈ xs, c ∉ x) : Lib.splitB (btj [c]) 0 (Lib.countB (btj (joinC c xs)) (btj [c])) (btj (joinC c xs)) = xs.map btj := by
  induction xs with
  | nil => exact absurd rfl h0
  | cons x r ih =>
    cases r with
    | nil =>
      show Lib.splitB _ 0 _ (btj x) = [btj x]
      rw [Lib.splitB_miss _ _ _ _ (indexB_none (hx x (by simp)))]
    | cons y r =>
      have hi := indexB_first (r := joinC c (y :: r)) (hx x (by simp))
      have hc : Lib.countB (btj (joinC c (x :: y :: r))) (btj [c]) = Lib.countB (btj (joinC c (y :: r))) (btj [c]) + 1 := by
        show Lib.countB (btj (x ++ c :: joinC c (y :: r))) (btj [c]) = _
        rw [Lib.countB_hit _ (btj [c]) x.length (show 1 ≤ (btj [c]).size from Nat.le_refl 1) hi]
        have e : (btj [c]).size = 1 := rfl
        rw [e, ext_tail]; omega
      rw [hc]
      show Lib.splitB _ 0 (_ + 1) (btj (x ++ c :: joinC c (y :: r))) = _
      rw [Lib.splitB_hit _ _ _ _ x.length hi]
      have e : (btj [c]).size = 1 := rfl
      rw [e, ext_tail, Nat.add_zero, ext_head, ih (by simp) (fun z hz => hx z (by simp at hz ⊢; exact Or.inr hz))]
      rfl
end Go.Proofs.YtkdlipbegdiaaaaGreatDoor
namespace Go.Proofs.YtkdlipbegdiaaaaGreatDoor
open Go
/-- the digits of a word read behind a number -/
def numD : List UInt8 → Nat → Option Nat
  | [], a => some a
  | c :: r, a => if c.toNat < 48 ∨ 57 < c.toNat then none else numD r (a * 10 + (c.toNat - 48))
theorem numD_cons (c : UInt8) (r : List UInt8) (a : Nat) : numD (c :: r) a = if c.toNat < 48 ∨ 57 < c.toNat then none else numD r (a * 10 + (c.toNat - 48)) := rfl
/-- the number that a word tells -/
def numV (s : List UInt8) : Nat := if s.length < 1 ∨ 4 < s.length then 0 else (numD s 0).getD 0
theorem decDigits_step {n m k : Nat} (h : n < m * 10) (ih : n / 10 < m → (Lib.decDigits (n / 10)).length ≤ k) : (Lib.decDigits n).length ≤ k + 1 := by
  by_cases h10 : n < 10
  · rw [Lib.decDigits_one h10]; simp
  · rw [Lib.decDigits, dif_neg h10, List.length_append]
    have := ih (by omega)
    simp; omega
theorem decDigits_one_le {n : Nat} (h : n < 10) : (Lib.decDigits n).length ≤ 1 := by rw [Lib.decDigits_one h]; simp
theorem decDigits_four {n : Nat} (h : n < 10000) : (Lib.decDigits n).length ≤ 4 :=
  decDigits_step (m := 1000) (by omega) fun h => decDigits_step (m := 100) (by omega) fun h => decDigits_step (m := 10) (by omega) fun h => decDigits_one_le h
theorem dec_no {c : UInt8} (hc : c.toNat < 48) : ∀ (b n : Nat), n < b → c ∉ Lib.decDigits n := by
  intro b
  induction b with
  | zero => intro n h; omega
  | succ b ih =>
    intro n h hm
    by_cases h10 : n < 10
    · rw [Lib.decDigits_one h10, List.mem_singleton] at hm
      subst hm
      rw [UInt8.toNat_ofNat'] at hc; omega
    · rw [Lib.decDigits, dif_neg h10, List.mem_append, List.mem_singleton] at hm
      rcases hm with hm | hm
      · exact ih (n / 10) (by omega) hm
      · subst hm
        rw [UInt8.toNat_ofNat'] at hc; omega
/-- the name of a kind of line -/
def cmdName : Nat → List UInt8
  | 0 => [97, 110, 103, 108, 101, 115]
  | 1 => [102, 111, 108, 100, 115]
  | 2 => [109, 97, 110, 121]
  | 3 => [102, 105, 114, 115, 116]
  | 4 => [116, 101, 115, 116]
  | 5 => [99, 114, 105, 109, 112]
  | 6 => [115, 116, 114, 105, 112]
  | 7 => [115, 116, 97, 99, 107]
  | 8 => [119, 111, 114, 100]
  | _ => [115, 116, 97, 109, 112, 115]
/-- how many further words it has at least -/
def cmdLeast : Nat → Nat
  | 0 => 1
  | 1 => 1
  | 2 => 0
  | 3 => 0
  | 4 => 0
  | 5 => 1
  | 6 => 2
  | 7 => 1
  | 8 => 1
  | _ => 1
/-- and at most -/
def cmdMost : Nat → Nat
  | 0 => 301
  | 1 => 1
  | 2 => 0
  | 3 => 0
  | 4 => 0
  | 5 => 1
  | 6 => 301
  | 7 => 1
  | 8 => 1
  | _ => 1
/-- whether a line's words are of a kind -/
def cmdIs (k : Nat) (x : List UInt8) (m : Nat) : Bool := cmdName k == x && decide (cmdLeast k ≤ m) && decide (m ≤ cmdMost k)
theorem cmdName_inj {i j : Nat} (hi : i < 10) (hj : j < 10) (h : cmdName i = cmdName j) : i = j := by
  have : ∀ i : Fin 10, ∀ j : Fin 10, cmdName i = cmdName j → i = j := by decide
  exact congrArg Fin.val (this ⟨i, hi⟩ ⟨j, hj⟩ h)
end Go.Proofs.YtkdlipbegdiaaaaGreatDoor
