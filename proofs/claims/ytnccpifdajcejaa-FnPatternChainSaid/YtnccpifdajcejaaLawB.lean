/- The laws' own helpers that mark a list of integers and ask whether it still holds its marks. No condition but sizes. -/
import Derived.Test.YtnccpifdajcejaaLawA
namespace Go.Proofs.Ytnccpifdajcejaa
open Go.RowKit

/-- the numbers from k on, n of them -/
def countFrom (k : Int) (n : Nat) : List Int := (List.range n).map fun (i : Nat) => k + (i : Int)
theorem countFrom_len (k : Int) (n : Nat) : (countFrom k n).length = n := by simp [countFrom]
theorem countFrom_get (k : Int) (n i : Nat) (h : i < n) : (countFrom k n)[i]? = some (k + (i : Int)) := by
  simp [countFrom, h]

theorem mark_step {xs : List Int} {k : Int} {j : Nat} (h : j < xs.length) :
    ((countFrom k j ++ xs.drop j).map (Value.int .i64)).set j (.int .i64 (k + (j : Int))) = (countFrom k (j + 1) ++ xs.drop (j + 1)).map (Value.int .i64) := by
  rw [← List.map_set]
  congr 1
  rw [List.set_append_right _ _ (by rw [countFrom_len]; exact Nat.le_refl _), countFrom_len, Nat.sub_self, List.drop_eq_getElem_cons h, List.set_cons_zero]
  simp [countFrom, List.range_succ]

end Go.Proofs.Ytnccpifdajcejaa
