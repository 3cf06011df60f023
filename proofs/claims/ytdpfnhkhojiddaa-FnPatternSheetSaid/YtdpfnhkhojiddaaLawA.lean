/- The laws' own helpers on lists of integers: a copy, a comparison. No condition but sizes. -/
import Derived.Test.YtdpfnhkhojiddaaApp
namespace Go.Proofs.Ytdpfnhkhojiddaa
open Go.RowKit

theorem fill_step {xs : List Int} {k : Nat} (h : k < xs.length) :
    ((xs.take k ++ List.replicate (xs.length - k) 0).map (Value.int .i64)).set k (.int .i64 (xs[k])) = (xs.take (k + 1) ++ List.replicate (xs.length - (k + 1)) 0).map (Value.int .i64) := by
  have e : xs.length - k = (xs.length - (k + 1)) + 1 := by omega
  rw [e, List.replicate_succ, ← List.map_set]
  congr 1
  rw [List.set_append_right _ _ (by simp; omega)]
  have e2 : k - (xs.take k).length = 0 := by simp; omega
  rw [e2, List.set_cons_zero, List.take_succ_eq_append_getElem h, List.append_assoc]
  rfl

theorem drop_get {xs r : List Int} {k : Nat} {x : Int} (hk : k < xs.length) (h : xs.drop k = x :: r) : xs[k] = x := by
  have h2 := List.drop_eq_getElem_cons hk
  rw [h] at h2
  injection h2 with h2
  exact h2.symm

def eqGo : List Int → List Int → Bool
  | [], _ => true
  | x :: r, y :: r' => if x = y then eqGo r r' else false
  | _ :: _, [] => true
theorem eqGo_eq {xs ys : List Int} (h : xs.length = ys.length) : eqGo xs ys = decide (xs = ys) := by
  induction xs generalizing ys with
  | nil => cases ys with
    | nil => rfl
    | cons y r => simp at h
  | cons x r ih =>
    cases ys with
    | nil => simp at h
    | cons y r' =>
      rw [eqGo, ih (by simpa using h)]
      by_cases e : x = y
      · simp [e]
      · simp [e]

end Go.Proofs.Ytdpfnhkhojiddaa
