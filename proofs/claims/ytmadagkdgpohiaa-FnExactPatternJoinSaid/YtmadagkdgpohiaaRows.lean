/-
  No cell of these rows narrows 'for every input' (looked for: loops, veiled, ifaces, maps, wideKeys, modest, calm, conditions, laid).
  DERIVED. THE GIVEN ROWS OF THIS SEAT. 9 by the template 'for every input the law returns true; each argument reads behind the call as it read before'; 0 by the template 'total and deterministic' (their statements: YtmadagkdgpohiaaTotals.lean).
  GIVEN WITH THE SEED: the statements are not yours to turn. If you find one false, say at which input.
  Laid BY PROGRAM, IN A SANDBOX (cutbox-rows.mjs): the forced cells as the released guide's own fill.sh prints them over the translation 352fb6b34498dce7… (all of the seat's roots in one cut). By AI agents, Wed Nov 11 2026. No macro, syntax, notation, axiom, sorry.
-/
import Derived.Test.YtmadagkdgpohiaaChecked
import GoSem.Claim
import GoSem.ClaimJoined
import GoSem.ClaimMapViews
import Derived.JoinedTies
import Derived.KernelRfl
namespace Go.Proofs.Ytmadagkdgpohiaa
/- THE CELL 'sum', in the pinned program and in every row, IS THE sha256 OF THE DUMP (.gsa) THAT YtmadagkdgpohiaaProg.lean LOADS. Nothing in Lean hashes anything: it is a label: what it is worth is what the hold of that sum in a sandbox is worth. -/
noncomputable def Try.pinned : Pinned := { name := "ytmadagkdgpohiaa", sum := "352fb6b34498dce7e7c52134b74e308443c2e4d6c085c134006b36d597a3d824", checked := Try.checked }
namespace Rows
def none {H : Type} : Left H := { results := [], args := [] }

/-- 'laws.FnExactPatternValid': WHATEVER THE INPUT: true; the input reads as it did. -/
def fnExactPatternValidSpec : ChangeSpec := { name := "fnExactPatternValid", fn := fun _ => fun
  | [d] => { results := [.lit (.bool true)], args := [d] }
  | _ => none }
def fnExactPatternValidRow : OpenClaim := { program := "ytmadagkdgpohiaa", sum := "352fb6b34498dce7e7c52134b74e308443c2e4d6c085c134006b36d597a3d824", func := "loop.example/flatfolding/laws.FnExactPatternValid", spec := "fnExactPatternValid", apart := false }
def FnExactPatternValidSaid : Prop := fnExactPatternValidRow.holds Try.pinned (OpenSpec.ofChange fnExactPatternValidSpec)

/-- ITS FALSE NEIGHBOUR: 'it returns false'. Refute it at one input. -/
def fnExactPatternValidWrong : ChangeSpec := { name := "fnExactPatternValid", fn := fun _ => fun
  | [d] => { results := [.lit (.bool false)], args := [d] }
  | _ => none }
def FnExactPatternValidWrongFalsely : Prop := fnExactPatternValidRow.holds Try.pinned (OpenSpec.ofChange fnExactPatternValidWrong)

/-- 'laws.FnExactPatternCreases': WHATEVER THE INPUT: true; the input reads as it did. -/
def fnExactPatternCreasesSpec : ChangeSpec := { name := "fnExactPatternCreases", fn := fun _ => fun
  | [d] => { results := [.lit (.bool true)], args := [d] }
  | _ => none }
def fnExactPatternCreasesRow : OpenClaim := { program := "ytmadagkdgpohiaa", sum := "352fb6b34498dce7e7c52134b74e308443c2e4d6c085c134006b36d597a3d824", func := "loop.example/flatfolding/laws.FnExactPatternCreases", spec := "fnExactPatternCreases", apart := false }
def FnExactPatternCreasesSaid : Prop := fnExactPatternCreasesRow.holds Try.pinned (OpenSpec.ofChange fnExactPatternCreasesSpec)

/-- ITS FALSE NEIGHBOUR: 'it returns false'. Refute it at one input. -/
def fnExactPatternCreasesWrong : ChangeSpec := { name := "fnExactPatternCreases", fn := fun _ => fun
  | [d] => { results := [.lit (.bool false)], args := [d] }
  | _ => none }
def FnExactPatternCreasesWrongFalsely : Prop := fnExactPatternCreasesRow.holds Try.pinned (OpenSpec.ofChange fnExactPatternCreasesWrong)

/-- 'laws.FnExactPatternInner': WHATEVER THE INPUT: true; the input reads as it did. -/
def fnExactPatternInnerSpec : ChangeSpec := { name := "fnExactPatternInner", fn := fun _ => fun
  | [d] => { results := [.lit (.bool true)], args := [d] }
  | _ => none }
def fnExactPatternInnerRow : OpenClaim := { program := "ytmadagkdgpohiaa", sum := "352fb6b34498dce7e7c52134b74e308443c2e4d6c085c134006b36d597a3d824", func := "loop.example/flatfolding/laws.FnExactPatternInner", spec := "fnExactPatternInner", apart := false }
def FnExactPatternInnerSaid : Prop := fnExactPatternInnerRow.holds Try.pinned (OpenSpec.ofChange fnExactPatternInnerSpec)

/-- ITS FALSE NEIGHBOUR: 'it returns false'. Refute it at one input. -/
def fnExactPatternInnerWrong : ChangeSpec := { name := "fnExactPatternInner", fn := fun _ => fun
  | [d] => { results := [.lit (.bool false)], args := [d] }
  | _ => none }
def FnExactPatternInnerWrongFalsely : Prop := fnExactPatternInnerRow.holds Try.pinned (OpenSpec.ofChange fnExactPatternInnerWrong)

/-- 'laws.FnExactPatternWithout': WHATEVER THE INPUT: true; the input reads as it did. -/
def fnExactPatternWithoutSpec : ChangeSpec := { name := "fnExactPatternWithout", fn := fun _ => fun
  | [d1, d2] => { results := [.lit (.bool true)], args := [d1, d2] }
  | _ => none }
def fnExactPatternWithoutRow : OpenClaim := { program := "ytmadagkdgpohiaa", sum := "352fb6b34498dce7e7c52134b74e308443c2e4d6c085c134006b36d597a3d824", func := "loop.example/flatfolding/laws.FnExactPatternWithout", spec := "fnExactPatternWithout", apart := false }
def FnExactPatternWithoutSaid : Prop := fnExactPatternWithoutRow.holds Try.pinned (OpenSpec.ofChange fnExactPatternWithoutSpec)

/-- ITS FALSE NEIGHBOUR: 'it returns false'. Refute it at one input. -/
def fnExactPatternWithoutWrong : ChangeSpec := { name := "fnExactPatternWithout", fn := fun _ => fun
  | [d1, d2] => { results := [.lit (.bool false)], args := [d1, d2] }
  | _ => none }
def FnExactPatternWithoutWrongFalsely : Prop := fnExactPatternWithoutRow.holds Try.pinned (OpenSpec.ofChange fnExactPatternWithoutWrong)

/-- 'laws.FnExactPatternJoin': WHATEVER THE INPUT: true; the input reads as it did. -/
def fnExactPatternJoinSpec : ChangeSpec := { name := "fnExactPatternJoin", fn := fun _ => fun
  | [d1, d2, d3, d4] => { results := [.lit (.bool true)], args := [d1, d2, d3, d4] }
  | _ => none }
def fnExactPatternJoinRow : OpenClaim := { program := "ytmadagkdgpohiaa", sum := "352fb6b34498dce7e7c52134b74e308443c2e4d6c085c134006b36d597a3d824", func := "loop.example/flatfolding/laws.FnExactPatternJoin", spec := "fnExactPatternJoin", apart := false }
def FnExactPatternJoinSaid : Prop := fnExactPatternJoinRow.holds Try.pinned (OpenSpec.ofChange fnExactPatternJoinSpec)

/-- ITS FALSE NEIGHBOUR: 'it returns false'. Refute it at one input. -/
def fnExactPatternJoinWrong : ChangeSpec := { name := "fnExactPatternJoin", fn := fun _ => fun
  | [d1, d2, d3, d4] => { results := [.lit (.bool false)], args := [d1, d2, d3, d4] }
  | _ => none }
def FnExactPatternJoinWrongFalsely : Prop := fnExactPatternJoinRow.holds Try.pinned (OpenSpec.ofChange fnExactPatternJoinWrong)

/-- 'laws.FnExactPatternCrimp': WHATEVER THE INPUT: true; the input reads as it did. -/
def fnExactPatternCrimpSpec : ChangeSpec := { name := "fnExactPatternCrimp", fn := fun _ => fun
  | [d1, d2] => { results := [.lit (.bool true)], args := [d1, d2] }
  | _ => none }
def fnExactPatternCrimpRow : OpenClaim := { program := "ytmadagkdgpohiaa", sum := "352fb6b34498dce7e7c52134b74e308443c2e4d6c085c134006b36d597a3d824", func := "loop.example/flatfolding/laws.FnExactPatternCrimp", spec := "fnExactPatternCrimp", unfollowed := true, recurses := true, apart := false }
def FnExactPatternCrimpSaid : Prop := fnExactPatternCrimpRow.holds Try.pinned (OpenSpec.ofChange fnExactPatternCrimpSpec)

/-- ITS FALSE NEIGHBOUR: 'it returns false'. Refute it at one input. -/
def fnExactPatternCrimpWrong : ChangeSpec := { name := "fnExactPatternCrimp", fn := fun _ => fun
  | [d1, d2] => { results := [.lit (.bool false)], args := [d1, d2] }
  | _ => none }
def FnExactPatternCrimpWrongFalsely : Prop := fnExactPatternCrimpRow.holds Try.pinned (OpenSpec.ofChange fnExactPatternCrimpWrong)

/-- 'laws.FnExactPatternFolds': WHATEVER THE INPUT: true; the input reads as it did. -/
def fnExactPatternFoldsSpec : ChangeSpec := { name := "fnExactPatternFolds", fn := fun _ => fun
  | [d1, d2] => { results := [.lit (.bool true)], args := [d1, d2] }
  | _ => none }
def fnExactPatternFoldsRow : OpenClaim := { program := "ytmadagkdgpohiaa", sum := "352fb6b34498dce7e7c52134b74e308443c2e4d6c085c134006b36d597a3d824", func := "loop.example/flatfolding/laws.FnExactPatternFolds", spec := "fnExactPatternFolds", unfollowed := true, recurses := true, apart := false }
def FnExactPatternFoldsSaid : Prop := fnExactPatternFoldsRow.holds Try.pinned (OpenSpec.ofChange fnExactPatternFoldsSpec)

/-- ITS FALSE NEIGHBOUR: 'it returns false'. Refute it at one input. -/
def fnExactPatternFoldsWrong : ChangeSpec := { name := "fnExactPatternFolds", fn := fun _ => fun
  | [d1, d2] => { results := [.lit (.bool false)], args := [d1, d2] }
  | _ => none }
def FnExactPatternFoldsWrongFalsely : Prop := fnExactPatternFoldsRow.holds Try.pinned (OpenSpec.ofChange fnExactPatternFoldsWrong)

/-- 'laws.FnExactPatternFirst': WHATEVER THE INPUT: true; the input reads as it did. -/
def fnExactPatternFirstSpec : ChangeSpec := { name := "fnExactPatternFirst", fn := fun _ => fun
  | [d] => { results := [.lit (.bool true)], args := [d] }
  | _ => none }
def fnExactPatternFirstRow : OpenClaim := { program := "ytmadagkdgpohiaa", sum := "352fb6b34498dce7e7c52134b74e308443c2e4d6c085c134006b36d597a3d824", func := "loop.example/flatfolding/laws.FnExactPatternFirst", spec := "fnExactPatternFirst", unfollowed := true, recurses := true, apart := false }
def FnExactPatternFirstSaid : Prop := fnExactPatternFirstRow.holds Try.pinned (OpenSpec.ofChange fnExactPatternFirstSpec)

/-- ITS FALSE NEIGHBOUR: 'it returns false'. Refute it at one input. -/
def fnExactPatternFirstWrong : ChangeSpec := { name := "fnExactPatternFirst", fn := fun _ => fun
  | [d] => { results := [.lit (.bool false)], args := [d] }
  | _ => none }
def FnExactPatternFirstWrongFalsely : Prop := fnExactPatternFirstRow.holds Try.pinned (OpenSpec.ofChange fnExactPatternFirstWrong)

/-- 'laws.FnExactPatternMany': WHATEVER THE INPUT: true; the input reads as it did. -/
def fnExactPatternManySpec : ChangeSpec := { name := "fnExactPatternMany", fn := fun _ => fun
  | [d] => { results := [.lit (.bool true)], args := [d] }
  | _ => none }
def fnExactPatternManyRow : OpenClaim := { program := "ytmadagkdgpohiaa", sum := "352fb6b34498dce7e7c52134b74e308443c2e4d6c085c134006b36d597a3d824", func := "loop.example/flatfolding/laws.FnExactPatternMany", spec := "fnExactPatternMany", unfollowed := true, recurses := true, apart := false }
def FnExactPatternManySaid : Prop := fnExactPatternManyRow.holds Try.pinned (OpenSpec.ofChange fnExactPatternManySpec)

/-- ITS FALSE NEIGHBOUR: 'it returns false'. Refute it at one input. -/
def fnExactPatternManyWrong : ChangeSpec := { name := "fnExactPatternMany", fn := fun _ => fun
  | [d] => { results := [.lit (.bool false)], args := [d] }
  | _ => none }
def FnExactPatternManyWrongFalsely : Prop := fnExactPatternManyRow.holds Try.pinned (OpenSpec.ofChange fnExactPatternManyWrong)

/- THE SECOND FORM. 'bulk': how many values and letters a reading holds, each counted each time it is reached (what is shared counts as often as it is met; a slice's spare places count too). A statement '..UptoSaid' is the law's where the arguments, and the package variables that the reading takes, are together of bulk at most 1048576: NARROWER than '..Said'. Prove '..Said' where nothing that the law and all that it calls make is longer than what came in: it says more and counts as full. Else prove '..UptoSaid'. A law counts once. -/
mutual
def uptoBulk {H : Type} : DataW H → Nat
  | .lit (.string bytes) => bytes.length + 1
  | .lit _ => 1
  | .nil => 1
  | .ptr d => uptoBulk d + 1
  | .slice elems spare => uptoBulkAll elems + uptoBulkAll spare + 1
  | .agg parts => uptoBulkAll parts + 1
  | .iface _ d => uptoBulk d + 1
  | .map entries => uptoBulkEntries entries + 1
  | .held _ => 1
def uptoBulkAll {H : Type} : List (DataW H) → Nat
  | [] => 0
  | d :: r => uptoBulk d + uptoBulkAll r
def uptoBulkEntries {H : Type} : List (Lit × DataW H) → Nat
  | [] => 0
  | x :: r => uptoBulkEntry x + uptoBulkEntries r
def uptoBulkEntry {H : Type} : Lit × DataW H → Nat
  | (.string bytes, d) => bytes.length + uptoBulk d + 1
  | (_, d) => uptoBulk d + 1
 end
def uptoSmall : (H : Type) → List (DataW H) → Bool := fun _ ds => decide (uptoBulkAll ds ≤ 1048576)
def OpenSpec.upto (s : _root_.Go.ChangeSpec) : _root_.Go.OpenSpec := { _root_.Go.OpenSpec.ofChange s with cond := some uptoSmall }

/-- 'laws.FnExactPatternValid', WHERE WHAT IT READS IS OF BULK AT MOST 1048576: true; the input reads as it did. -/
def fnExactPatternValidUptoRow : OpenClaim := { program := "ytmadagkdgpohiaa", sum := "352fb6b34498dce7e7c52134b74e308443c2e4d6c085c134006b36d597a3d824", func := "loop.example/flatfolding/laws.FnExactPatternValid", spec := "fnExactPatternValid", apart := false, narrowed := true }
def FnExactPatternValidUptoSaid : Prop := fnExactPatternValidUptoRow.holds Try.pinned (OpenSpec.upto fnExactPatternValidSpec)

/-- 'laws.FnExactPatternCreases', WHERE WHAT IT READS IS OF BULK AT MOST 1048576: true; the input reads as it did. -/
def fnExactPatternCreasesUptoRow : OpenClaim := { program := "ytmadagkdgpohiaa", sum := "352fb6b34498dce7e7c52134b74e308443c2e4d6c085c134006b36d597a3d824", func := "loop.example/flatfolding/laws.FnExactPatternCreases", spec := "fnExactPatternCreases", apart := false, narrowed := true }
def FnExactPatternCreasesUptoSaid : Prop := fnExactPatternCreasesUptoRow.holds Try.pinned (OpenSpec.upto fnExactPatternCreasesSpec)

/-- 'laws.FnExactPatternInner', WHERE WHAT IT READS IS OF BULK AT MOST 1048576: true; the input reads as it did. -/
def fnExactPatternInnerUptoRow : OpenClaim := { program := "ytmadagkdgpohiaa", sum := "352fb6b34498dce7e7c52134b74e308443c2e4d6c085c134006b36d597a3d824", func := "loop.example/flatfolding/laws.FnExactPatternInner", spec := "fnExactPatternInner", apart := false, narrowed := true }
def FnExactPatternInnerUptoSaid : Prop := fnExactPatternInnerUptoRow.holds Try.pinned (OpenSpec.upto fnExactPatternInnerSpec)

/-- 'laws.FnExactPatternWithout', WHERE WHAT IT READS IS OF BULK AT MOST 1048576: true; the input reads as it did. -/
def fnExactPatternWithoutUptoRow : OpenClaim := { program := "ytmadagkdgpohiaa", sum := "352fb6b34498dce7e7c52134b74e308443c2e4d6c085c134006b36d597a3d824", func := "loop.example/flatfolding/laws.FnExactPatternWithout", spec := "fnExactPatternWithout", apart := false, narrowed := true }
def FnExactPatternWithoutUptoSaid : Prop := fnExactPatternWithoutUptoRow.holds Try.pinned (OpenSpec.upto fnExactPatternWithoutSpec)

/-- 'laws.FnExactPatternJoin', WHERE WHAT IT READS IS OF BULK AT MOST 1048576: true; the input reads as it did. -/
def fnExactPatternJoinUptoRow : OpenClaim := { program := "ytmadagkdgpohiaa", sum := "352fb6b34498dce7e7c52134b74e308443c2e4d6c085c134006b36d597a3d824", func := "loop.example/flatfolding/laws.FnExactPatternJoin", spec := "fnExactPatternJoin", apart := false, narrowed := true }
def FnExactPatternJoinUptoSaid : Prop := fnExactPatternJoinUptoRow.holds Try.pinned (OpenSpec.upto fnExactPatternJoinSpec)

/-- 'laws.FnExactPatternCrimp', WHERE WHAT IT READS IS OF BULK AT MOST 1048576: true; the input reads as it did. -/
def fnExactPatternCrimpUptoRow : OpenClaim := { program := "ytmadagkdgpohiaa", sum := "352fb6b34498dce7e7c52134b74e308443c2e4d6c085c134006b36d597a3d824", func := "loop.example/flatfolding/laws.FnExactPatternCrimp", spec := "fnExactPatternCrimp", unfollowed := true, recurses := true, apart := false, narrowed := true }
def FnExactPatternCrimpUptoSaid : Prop := fnExactPatternCrimpUptoRow.holds Try.pinned (OpenSpec.upto fnExactPatternCrimpSpec)

/-- 'laws.FnExactPatternFolds', WHERE WHAT IT READS IS OF BULK AT MOST 1048576: true; the input reads as it did. -/
def fnExactPatternFoldsUptoRow : OpenClaim := { program := "ytmadagkdgpohiaa", sum := "352fb6b34498dce7e7c52134b74e308443c2e4d6c085c134006b36d597a3d824", func := "loop.example/flatfolding/laws.FnExactPatternFolds", spec := "fnExactPatternFolds", unfollowed := true, recurses := true, apart := false, narrowed := true }
def FnExactPatternFoldsUptoSaid : Prop := fnExactPatternFoldsUptoRow.holds Try.pinned (OpenSpec.upto fnExactPatternFoldsSpec)

/-- 'laws.FnExactPatternFirst', WHERE WHAT IT READS IS OF BULK AT MOST 1048576: true; the input reads as it did. -/
def fnExactPatternFirstUptoRow : OpenClaim := { program := "ytmadagkdgpohiaa", sum := "352fb6b34498dce7e7c52134b74e308443c2e4d6c085c134006b36d597a3d824", func := "loop.example/flatfolding/laws.FnExactPatternFirst", spec := "fnExactPatternFirst", unfollowed := true, recurses := true, apart := false, narrowed := true }
def FnExactPatternFirstUptoSaid : Prop := fnExactPatternFirstUptoRow.holds Try.pinned (OpenSpec.upto fnExactPatternFirstSpec)

/-- 'laws.FnExactPatternMany', WHERE WHAT IT READS IS OF BULK AT MOST 1048576: true; the input reads as it did. -/
def fnExactPatternManyUptoRow : OpenClaim := { program := "ytmadagkdgpohiaa", sum := "352fb6b34498dce7e7c52134b74e308443c2e4d6c085c134006b36d597a3d824", func := "loop.example/flatfolding/laws.FnExactPatternMany", spec := "fnExactPatternMany", unfollowed := true, recurses := true, apart := false, narrowed := true }
def FnExactPatternManyUptoSaid : Prop := fnExactPatternManyUptoRow.holds Try.pinned (OpenSpec.upto fnExactPatternManySpec)

end Rows
end Go.Proofs.Ytmadagkdgpohiaa
