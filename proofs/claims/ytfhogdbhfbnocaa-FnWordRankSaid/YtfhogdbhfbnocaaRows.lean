/-
  No cell of these rows narrows 'for every input' (looked for: loops, veiled, ifaces, maps, wideKeys, modest, calm, conditions, laid).
  DERIVED. THE GIVEN ROWS OF THIS SEAT. 4 by the template 'for every input the law returns true; each argument reads behind the call as it read before'; 0 by the template 'total and deterministic' (their statements: YtfhogdbhfbnocaaTotals.lean).
  GIVEN WITH THE SEED: the statements are not yours to turn. If you find one false, say at which input.
  Laid BY PROGRAM, IN A SANDBOX (cutbox-rows.mjs): the forced cells as the released guide's own fill.sh prints them over the translation 150cbcc6f5aacf60… (all of the seat's roots in one cut). By AI agents, Wed Nov 11 2026. No macro, syntax, notation, axiom, sorry.
-/
import Derived.Test.YtfhogdbhfbnocaaChecked
import GoSem.Claim
import GoSem.ClaimJoined
import GoSem.ClaimMapViews
import Derived.JoinedTies
import Derived.KernelRfl
namespace Go.Proofs.Ytfhogdbhfbnocaa
/- THE CELL 'sum', in the pinned program and in every row, IS THE sha256 OF THE DUMP (.gsa) THAT YtfhogdbhfbnocaaProg.lean LOADS. Nothing in Lean hashes anything: it is a label: what it is worth is what the hold of that sum in a sandbox is worth. -/
noncomputable def Try.pinned : Pinned := { name := "ytfhogdbhfbnocaa", sum := "150cbcc6f5aacf6058f7e64a07b697dcdf4769c20b6fb00e48cab3e660f18655", checked := Try.checked }
namespace Rows
def none {H : Type} : Left H := { results := [], args := [] }

/-- 'laws.FnExactWordNth': WHATEVER THE INPUT: true; the input reads as it did. -/
def fnExactWordNthSpec : ChangeSpec := { name := "fnExactWordNth", fn := fun _ => fun
  | [d1, d2] => { results := [.lit (.bool true)], args := [d1, d2] }
  | _ => none }
def fnExactWordNthRow : OpenClaim := { program := "ytfhogdbhfbnocaa", sum := "150cbcc6f5aacf6058f7e64a07b697dcdf4769c20b6fb00e48cab3e660f18655", func := "loop.example/flatfolding/laws.FnExactWordNth", spec := "fnExactWordNth", unfollowed := true, recurses := true, apart := false }
def FnExactWordNthSaid : Prop := fnExactWordNthRow.holds Try.pinned (OpenSpec.ofChange fnExactWordNthSpec)

/-- ITS FALSE NEIGHBOUR: 'it returns false'. Refute it at one input. -/
def fnExactWordNthWrong : ChangeSpec := { name := "fnExactWordNth", fn := fun _ => fun
  | [d1, d2] => { results := [.lit (.bool false)], args := [d1, d2] }
  | _ => none }
def FnExactWordNthWrongFalsely : Prop := fnExactWordNthRow.holds Try.pinned (OpenSpec.ofChange fnExactWordNthWrong)

/-- 'laws.FnExactWordRank': WHATEVER THE INPUT: true; the input reads as it did. -/
def fnExactWordRankSpec : ChangeSpec := { name := "fnExactWordRank", fn := fun _ => fun
  | [d] => { results := [.lit (.bool true)], args := [d] }
  | _ => none }
def fnExactWordRankRow : OpenClaim := { program := "ytfhogdbhfbnocaa", sum := "150cbcc6f5aacf6058f7e64a07b697dcdf4769c20b6fb00e48cab3e660f18655", func := "loop.example/flatfolding/laws.FnExactWordRank", spec := "fnExactWordRank", unfollowed := true, recurses := true, apart := false }
def FnExactWordRankSaid : Prop := fnExactWordRankRow.holds Try.pinned (OpenSpec.ofChange fnExactWordRankSpec)

/-- ITS FALSE NEIGHBOUR: 'it returns false'. Refute it at one input. -/
def fnExactWordRankWrong : ChangeSpec := { name := "fnExactWordRank", fn := fun _ => fun
  | [d] => { results := [.lit (.bool false)], args := [d] }
  | _ => none }
def FnExactWordRankWrongFalsely : Prop := fnExactWordRankRow.holds Try.pinned (OpenSpec.ofChange fnExactWordRankWrong)

/-- 'laws.FnWordRank': WHATEVER THE INPUT: true; the input reads as it did. -/
def fnWordRankSpec : ChangeSpec := { name := "fnWordRank", fn := fun _ => fun
  | [d] => { results := [.lit (.bool true)], args := [d] }
  | _ => none }
def fnWordRankRow : OpenClaim := { program := "ytfhogdbhfbnocaa", sum := "150cbcc6f5aacf6058f7e64a07b697dcdf4769c20b6fb00e48cab3e660f18655", func := "loop.example/flatfolding/laws.FnWordRank", spec := "fnWordRank", unfollowed := true, recurses := true, apart := false }
def FnWordRankSaid : Prop := fnWordRankRow.holds Try.pinned (OpenSpec.ofChange fnWordRankSpec)

/-- ITS FALSE NEIGHBOUR: 'it returns false'. Refute it at one input. -/
def fnWordRankWrong : ChangeSpec := { name := "fnWordRank", fn := fun _ => fun
  | [d] => { results := [.lit (.bool false)], args := [d] }
  | _ => none }
def FnWordRankWrongFalsely : Prop := fnWordRankRow.holds Try.pinned (OpenSpec.ofChange fnWordRankWrong)

/-- 'laws.FnWordRankOther': WHATEVER THE INPUT: true; the input reads as it did. -/
def fnWordRankOtherSpec : ChangeSpec := { name := "fnWordRankOther", fn := fun _ => fun
  | [d] => { results := [.lit (.bool true)], args := [d] }
  | _ => none }
def fnWordRankOtherRow : OpenClaim := { program := "ytfhogdbhfbnocaa", sum := "150cbcc6f5aacf6058f7e64a07b697dcdf4769c20b6fb00e48cab3e660f18655", func := "loop.example/flatfolding/laws.FnWordRankOther", spec := "fnWordRankOther", unfollowed := true, recurses := true, apart := false }
def FnWordRankOtherSaid : Prop := fnWordRankOtherRow.holds Try.pinned (OpenSpec.ofChange fnWordRankOtherSpec)

/-- ITS FALSE NEIGHBOUR: 'it returns false'. Refute it at one input. -/
def fnWordRankOtherWrong : ChangeSpec := { name := "fnWordRankOther", fn := fun _ => fun
  | [d] => { results := [.lit (.bool false)], args := [d] }
  | _ => none }
def FnWordRankOtherWrongFalsely : Prop := fnWordRankOtherRow.holds Try.pinned (OpenSpec.ofChange fnWordRankOtherWrong)

/- THE SECOND FORM. 'bulk': how many values and letters a reading holds, each counted each time it is reached (what is shared counts as often as it is met; a slice's spare places count too). A statement '..UptoSaid' is the law's where the arguments, and the package variables that the reading takes, are together of bulk at most 1048576: NARROWER than '..Said'. Prove '..Said' where nothing that the law and all that it calls make is longer than what came in: it says more and counts as full. Else prove '..UptoSaid'. A law counts once. -/
mutual
def uptoBulk {H : Type} : DataW H → Nat
  | .lit (.string bytes) => bytes.length + 1
  | .lit _ => 1
  | .nil => 1
  | .ptr d => uptoBulk d + 1
  | .slice elems spare => uptoBulkAll elems + uptoBulkAll spare + 1
  | .agg parts => uptoBulkAll parts + 1
  | .iface _ d => uptoBulk d + 1
  | .map entries => uptoBulkEntries entries + 1
  | .held _ => 1
def uptoBulkAll {H : Type} : List (DataW H) → Nat
  | [] => 0
  | d :: r => uptoBulk d + uptoBulkAll r
def uptoBulkEntries {H : Type} : List (Lit × DataW H) → Nat
  | [] => 0
  | x :: r => uptoBulkEntry x + uptoBulkEntries r
def uptoBulkEntry {H : Type} : Lit × DataW H → Nat
  | (.string bytes, d) => bytes.length + uptoBulk d + 1
  | (_, d) => uptoBulk d + 1
 end
def uptoSmall : (H : Type) → List (DataW H) → Bool := fun _ ds => decide (uptoBulkAll ds ≤ 1048576)
def OpenSpec.upto (s : _root_.Go.ChangeSpec) : _root_.Go.OpenSpec := { _root_.Go.OpenSpec.ofChange s with cond := some uptoSmall }

/-- 'laws.FnExactWordNth', WHERE WHAT IT READS IS OF BULK AT MOST 1048576: true; the input reads as it did. -/
def fnExactWordNthUptoRow : OpenClaim := { program := "ytfhogdbhfbnocaa", sum := "150cbcc6f5aacf6058f7e64a07b697dcdf4769c20b6fb00e48cab3e660f18655", func := "loop.example/flatfolding/laws.FnExactWordNth", spec := "fnExactWordNth", unfollowed := true, recurses := true, apart := false, narrowed := true }
def FnExactWordNthUptoSaid : Prop := fnExactWordNthUptoRow.holds Try.pinned (OpenSpec.upto fnExactWordNthSpec)

/-- 'laws.FnExactWordRank', WHERE WHAT IT READS IS OF BULK AT MOST 1048576: true; the input reads as it did. -/
def fnExactWordRankUptoRow : OpenClaim := { program := "ytfhogdbhfbnocaa", sum := "150cbcc6f5aacf6058f7e64a07b697dcdf4769c20b6fb00e48cab3e660f18655", func := "loop.example/flatfolding/laws.FnExactWordRank", spec := "fnExactWordRank", unfollowed := true, recurses := true, apart := false, narrowed := true }
def FnExactWordRankUptoSaid : Prop := fnExactWordRankUptoRow.holds Try.pinned (OpenSpec.upto fnExactWordRankSpec)

/-- 'laws.FnWordRank', WHERE WHAT IT READS IS OF BULK AT MOST 1048576: true; the input reads as it did. -/
def fnWordRankUptoRow : OpenClaim := { program := "ytfhogdbhfbnocaa", sum := "150cbcc6f5aacf6058f7e64a07b697dcdf4769c20b6fb00e48cab3e660f18655", func := "loop.example/flatfolding/laws.FnWordRank", spec := "fnWordRank", unfollowed := true, recurses := true, apart := false, narrowed := true }
def FnWordRankUptoSaid : Prop := fnWordRankUptoRow.holds Try.pinned (OpenSpec.upto fnWordRankSpec)

/-- 'laws.FnWordRankOther', WHERE WHAT IT READS IS OF BULK AT MOST 1048576: true; the input reads as it did. -/
def fnWordRankOtherUptoRow : OpenClaim := { program := "ytfhogdbhfbnocaa", sum := "150cbcc6f5aacf6058f7e64a07b697dcdf4769c20b6fb00e48cab3e660f18655", func := "loop.example/flatfolding/laws.FnWordRankOther", spec := "fnWordRankOther", unfollowed := true, recurses := true, apart := false, narrowed := true }
def FnWordRankOtherUptoSaid : Prop := fnWordRankOtherUptoRow.holds Try.pinned (OpenSpec.upto fnWordRankOtherSpec)

end Rows
end Go.Proofs.Ytfhogdbhfbnocaa
