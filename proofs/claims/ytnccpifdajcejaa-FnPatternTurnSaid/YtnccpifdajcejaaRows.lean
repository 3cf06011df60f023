/-
  No cell of these rows narrows 'for every input' (looked for: loops, veiled, ifaces, maps, wideKeys, modest, calm, conditions, laid).
  DERIVED. THE GIVEN ROWS OF THIS SEAT. 11 by the template 'for every input the law returns true; each argument reads behind the call as it read before'; 0 by the template 'total and deterministic' (their statements: YtnccpifdajcejaaTotals.lean).
  GIVEN WITH THE SEED: the statements are not yours to turn. If you find one false, say at which input.
  Laid BY PROGRAM, IN A SANDBOX (cutbox-rows.mjs): the forced cells as the released guide's own fill.sh prints them over the translation bbbb73e9b78da9e6… (all of the seat's roots in one cut). By AI agents, Wed Nov 11 2026. No macro, syntax, notation, axiom, sorry.
-/
import Derived.Test.YtnccpifdajcejaaChecked
import GoSem.Claim
import GoSem.ClaimJoined
import GoSem.ClaimMapViews
import Derived.JoinedTies
import Derived.KernelRfl
namespace Go.Proofs.Ytnccpifdajcejaa
/- THE CELL 'sum', in the pinned program and in every row, IS THE sha256 OF THE DUMP (.gsa) THAT YtnccpifdajcejaaProg.lean LOADS. Nothing in Lean hashes anything: it is a label: what it is worth is what the hold of that sum in a sandbox is worth. -/
noncomputable def Try.pinned : Pinned := { name := "ytnccpifdajcejaa", sum := "bbbb73e9b78da9e6c5d4e80d1acc50244faf69e86f125f5ab40bfc243d44baa6", checked := Try.checked }
namespace Rows
def none {H : Type} : Left H := { results := [], args := [] }

/-- 'laws.FnPattern': WHATEVER THE INPUT: true; the input reads as it did. -/
def fnPatternSpec : ChangeSpec := { name := "fnPattern", fn := fun _ => fun
  | [d] => { results := [.lit (.bool true)], args := [d] }
  | _ => none }
def fnPatternRow : OpenClaim := { program := "ytnccpifdajcejaa", sum := "bbbb73e9b78da9e6c5d4e80d1acc50244faf69e86f125f5ab40bfc243d44baa6", func := "loop.example/flatfolding/laws.FnPattern", spec := "fnPattern", apart := false }
def FnPatternSaid : Prop := fnPatternRow.holds Try.pinned (OpenSpec.ofChange fnPatternSpec)

/-- ITS FALSE NEIGHBOUR: 'it returns false'. Refute it at one input. -/
def fnPatternWrong : ChangeSpec := { name := "fnPattern", fn := fun _ => fun
  | [d] => { results := [.lit (.bool false)], args := [d] }
  | _ => none }
def FnPatternWrongFalsely : Prop := fnPatternRow.holds Try.pinned (OpenSpec.ofChange fnPatternWrong)

/-- 'laws.FnPatternJoinWithout': WHATEVER THE INPUT: true; the input reads as it did. -/
def fnPatternJoinWithoutSpec : ChangeSpec := { name := "fnPatternJoinWithout", fn := fun _ => fun
  | [d] => { results := [.lit (.bool true)], args := [d] }
  | _ => none }
def fnPatternJoinWithoutRow : OpenClaim := { program := "ytnccpifdajcejaa", sum := "bbbb73e9b78da9e6c5d4e80d1acc50244faf69e86f125f5ab40bfc243d44baa6", func := "loop.example/flatfolding/laws.FnPatternJoinWithout", spec := "fnPatternJoinWithout", apart := false }
def FnPatternJoinWithoutSaid : Prop := fnPatternJoinWithoutRow.holds Try.pinned (OpenSpec.ofChange fnPatternJoinWithoutSpec)

/-- ITS FALSE NEIGHBOUR: 'it returns false'. Refute it at one input. -/
def fnPatternJoinWithoutWrong : ChangeSpec := { name := "fnPatternJoinWithout", fn := fun _ => fun
  | [d] => { results := [.lit (.bool false)], args := [d] }
  | _ => none }
def FnPatternJoinWithoutWrongFalsely : Prop := fnPatternJoinWithoutRow.holds Try.pinned (OpenSpec.ofChange fnPatternJoinWithoutWrong)

/-- 'laws.FnPatternInner': WHATEVER THE INPUT: true; the input reads as it did. -/
def fnPatternInnerSpec : ChangeSpec := { name := "fnPatternInner", fn := fun _ => fun
  | [d] => { results := [.lit (.bool true)], args := [d] }
  | _ => none }
def fnPatternInnerRow : OpenClaim := { program := "ytnccpifdajcejaa", sum := "bbbb73e9b78da9e6c5d4e80d1acc50244faf69e86f125f5ab40bfc243d44baa6", func := "loop.example/flatfolding/laws.FnPatternInner", spec := "fnPatternInner", unfollowed := true, recurses := true, apart := false }
def FnPatternInnerSaid : Prop := fnPatternInnerRow.holds Try.pinned (OpenSpec.ofChange fnPatternInnerSpec)

/-- ITS FALSE NEIGHBOUR: 'it returns false'. Refute it at one input. -/
def fnPatternInnerWrong : ChangeSpec := { name := "fnPatternInner", fn := fun _ => fun
  | [d] => { results := [.lit (.bool false)], args := [d] }
  | _ => none }
def FnPatternInnerWrongFalsely : Prop := fnPatternInnerRow.holds Try.pinned (OpenSpec.ofChange fnPatternInnerWrong)

/-- 'laws.FnPatternTurn': WHATEVER THE INPUT: true; the input reads as it did. -/
def fnPatternTurnSpec : ChangeSpec := { name := "fnPatternTurn", fn := fun _ => fun
  | [d1, d2] => { results := [.lit (.bool true)], args := [d1, d2] }
  | _ => none }
def fnPatternTurnRow : OpenClaim := { program := "ytnccpifdajcejaa", sum := "bbbb73e9b78da9e6c5d4e80d1acc50244faf69e86f125f5ab40bfc243d44baa6", func := "loop.example/flatfolding/laws.FnPatternTurn", spec := "fnPatternTurn", unfollowed := true, recurses := true, apart := false }
def FnPatternTurnSaid : Prop := fnPatternTurnRow.holds Try.pinned (OpenSpec.ofChange fnPatternTurnSpec)

/-- ITS FALSE NEIGHBOUR: 'it returns false'. Refute it at one input. -/
def fnPatternTurnWrong : ChangeSpec := { name := "fnPatternTurn", fn := fun _ => fun
  | [d1, d2] => { results := [.lit (.bool false)], args := [d1, d2] }
  | _ => none }
def FnPatternTurnWrongFalsely : Prop := fnPatternTurnRow.holds Try.pinned (OpenSpec.ofChange fnPatternTurnWrong)

/-- 'laws.FnPatternWithout': WHATEVER THE INPUT: true; the input reads as it did. -/
def fnPatternWithoutSpec : ChangeSpec := { name := "fnPatternWithout", fn := fun _ => fun
  | [d] => { results := [.lit (.bool true)], args := [d] }
  | _ => none }
def fnPatternWithoutRow : OpenClaim := { program := "ytnccpifdajcejaa", sum := "bbbb73e9b78da9e6c5d4e80d1acc50244faf69e86f125f5ab40bfc243d44baa6", func := "loop.example/flatfolding/laws.FnPatternWithout", spec := "fnPatternWithout", unfollowed := true, recurses := true, apart := false }
def FnPatternWithoutSaid : Prop := fnPatternWithoutRow.holds Try.pinned (OpenSpec.ofChange fnPatternWithoutSpec)

/-- ITS FALSE NEIGHBOUR: 'it returns false'. Refute it at one input. -/
def fnPatternWithoutWrong : ChangeSpec := { name := "fnPatternWithout", fn := fun _ => fun
  | [d] => { results := [.lit (.bool false)], args := [d] }
  | _ => none }
def FnPatternWithoutWrongFalsely : Prop := fnPatternWithoutRow.holds Try.pinned (OpenSpec.ofChange fnPatternWithoutWrong)

/-- 'laws.FnPatternFirst': WHATEVER THE INPUT: true; the input reads as it did. -/
def fnPatternFirstSpec : ChangeSpec := { name := "fnPatternFirst", fn := fun _ => fun
  | [d] => { results := [.lit (.bool true)], args := [d] }
  | _ => none }
def fnPatternFirstRow : OpenClaim := { program := "ytnccpifdajcejaa", sum := "bbbb73e9b78da9e6c5d4e80d1acc50244faf69e86f125f5ab40bfc243d44baa6", func := "loop.example/flatfolding/laws.FnPatternFirst", spec := "fnPatternFirst", unfollowed := true, recurses := true, apart := false }
def FnPatternFirstSaid : Prop := fnPatternFirstRow.holds Try.pinned (OpenSpec.ofChange fnPatternFirstSpec)

/-- ITS FALSE NEIGHBOUR: 'it returns false'. Refute it at one input. -/
def fnPatternFirstWrong : ChangeSpec := { name := "fnPatternFirst", fn := fun _ => fun
  | [d] => { results := [.lit (.bool false)], args := [d] }
  | _ => none }
def FnPatternFirstWrongFalsely : Prop := fnPatternFirstRow.holds Try.pinned (OpenSpec.ofChange fnPatternFirstWrong)

/-- 'laws.FnPatternJoin': WHATEVER THE INPUT: true; the input reads as it did. -/
def fnPatternJoinSpec : ChangeSpec := { name := "fnPatternJoin", fn := fun _ => fun
  | [d] => { results := [.lit (.bool true)], args := [d] }
  | _ => none }
def fnPatternJoinRow : OpenClaim := { program := "ytnccpifdajcejaa", sum := "bbbb73e9b78da9e6c5d4e80d1acc50244faf69e86f125f5ab40bfc243d44baa6", func := "loop.example/flatfolding/laws.FnPatternJoin", spec := "fnPatternJoin", unfollowed := true, recurses := true, apart := false }
def FnPatternJoinSaid : Prop := fnPatternJoinRow.holds Try.pinned (OpenSpec.ofChange fnPatternJoinSpec)

/-- ITS FALSE NEIGHBOUR: 'it returns false'. Refute it at one input. -/
def fnPatternJoinWrong : ChangeSpec := { name := "fnPatternJoin", fn := fun _ => fun
  | [d] => { results := [.lit (.bool false)], args := [d] }
  | _ => none }
def FnPatternJoinWrongFalsely : Prop := fnPatternJoinRow.holds Try.pinned (OpenSpec.ofChange fnPatternJoinWrong)

/-- 'laws.FnPatternMany': WHATEVER THE INPUT: true; the input reads as it did. -/
def fnPatternManySpec : ChangeSpec := { name := "fnPatternMany", fn := fun _ => fun
  | [d] => { results := [.lit (.bool true)], args := [d] }
  | _ => none }
def fnPatternManyRow : OpenClaim := { program := "ytnccpifdajcejaa", sum := "bbbb73e9b78da9e6c5d4e80d1acc50244faf69e86f125f5ab40bfc243d44baa6", func := "loop.example/flatfolding/laws.FnPatternMany", spec := "fnPatternMany", unfollowed := true, recurses := true, apart := false }
def FnPatternManySaid : Prop := fnPatternManyRow.holds Try.pinned (OpenSpec.ofChange fnPatternManySpec)

/-- ITS FALSE NEIGHBOUR: 'it returns false'. Refute it at one input. -/
def fnPatternManyWrong : ChangeSpec := { name := "fnPatternMany", fn := fun _ => fun
  | [d] => { results := [.lit (.bool false)], args := [d] }
  | _ => none }
def FnPatternManyWrongFalsely : Prop := fnPatternManyRow.holds Try.pinned (OpenSpec.ofChange fnPatternManyWrong)

/-- 'laws.FnPatternCrimp': WHATEVER THE INPUT: true; the input reads as it did. -/
def fnPatternCrimpSpec : ChangeSpec := { name := "fnPatternCrimp", fn := fun _ => fun
  | [d] => { results := [.lit (.bool true)], args := [d] }
  | _ => none }
def fnPatternCrimpRow : OpenClaim := { program := "ytnccpifdajcejaa", sum := "bbbb73e9b78da9e6c5d4e80d1acc50244faf69e86f125f5ab40bfc243d44baa6", func := "loop.example/flatfolding/laws.FnPatternCrimp", spec := "fnPatternCrimp", unfollowed := true, recurses := true, apart := false }
def FnPatternCrimpSaid : Prop := fnPatternCrimpRow.holds Try.pinned (OpenSpec.ofChange fnPatternCrimpSpec)

/-- ITS FALSE NEIGHBOUR: 'it returns false'. Refute it at one input. -/
def fnPatternCrimpWrong : ChangeSpec := { name := "fnPatternCrimp", fn := fun _ => fun
  | [d] => { results := [.lit (.bool false)], args := [d] }
  | _ => none }
def FnPatternCrimpWrongFalsely : Prop := fnPatternCrimpRow.holds Try.pinned (OpenSpec.ofChange fnPatternCrimpWrong)

/-- 'laws.FnPatternFolds': WHATEVER THE INPUT: true; the input reads as it did. -/
def fnPatternFoldsSpec : ChangeSpec := { name := "fnPatternFolds", fn := fun _ => fun
  | [d1, d2] => { results := [.lit (.bool true)], args := [d1, d2] }
  | _ => none }
def fnPatternFoldsRow : OpenClaim := { program := "ytnccpifdajcejaa", sum := "bbbb73e9b78da9e6c5d4e80d1acc50244faf69e86f125f5ab40bfc243d44baa6", func := "loop.example/flatfolding/laws.FnPatternFolds", spec := "fnPatternFolds", unfollowed := true, recurses := true, apart := false }
def FnPatternFoldsSaid : Prop := fnPatternFoldsRow.holds Try.pinned (OpenSpec.ofChange fnPatternFoldsSpec)

/-- ITS FALSE NEIGHBOUR: 'it returns false'. Refute it at one input. -/
def fnPatternFoldsWrong : ChangeSpec := { name := "fnPatternFolds", fn := fun _ => fun
  | [d1, d2] => { results := [.lit (.bool false)], args := [d1, d2] }
  | _ => none }
def FnPatternFoldsWrongFalsely : Prop := fnPatternFoldsRow.holds Try.pinned (OpenSpec.ofChange fnPatternFoldsWrong)

/-- 'laws.FnPatternChain': WHATEVER THE INPUT: true; the input reads as it did. -/
def fnPatternChainSpec : ChangeSpec := { name := "fnPatternChain", fn := fun _ => fun
  | [d] => { results := [.lit (.bool true)], args := [d] }
  | _ => none }
def fnPatternChainRow : OpenClaim := { program := "ytnccpifdajcejaa", sum := "bbbb73e9b78da9e6c5d4e80d1acc50244faf69e86f125f5ab40bfc243d44baa6", func := "loop.example/flatfolding/laws.FnPatternChain", spec := "fnPatternChain", unfollowed := true, recurses := true, apart := false }
def FnPatternChainSaid : Prop := fnPatternChainRow.holds Try.pinned (OpenSpec.ofChange fnPatternChainSpec)

/-- ITS FALSE NEIGHBOUR: 'it returns false'. Refute it at one input. -/
def fnPatternChainWrong : ChangeSpec := { name := "fnPatternChain", fn := fun _ => fun
  | [d] => { results := [.lit (.bool false)], args := [d] }
  | _ => none }
def FnPatternChainWrongFalsely : Prop := fnPatternChainRow.holds Try.pinned (OpenSpec.ofChange fnPatternChainWrong)

/- THE SECOND FORM. 'bulk': how many values and letters a reading holds, each counted each time it is reached (what is shared counts as often as it is met; a slice's spare places count too). A statement '..UptoSaid' is the law's where the arguments, and the package variables that the reading takes, are together of bulk at most 1048576: NARROWER than '..Said'. Prove '..Said' where nothing that the law and all that it calls make is longer than what came in: it says more and counts as full. Else prove '..UptoSaid'. A law counts once. -/
mutual
def uptoBulk {H : Type} : DataW H → Nat
  | .lit (.string bytes) => bytes.length + 1
  | .lit _ => 1
  | .nil => 1
  | .ptr d => uptoBulk d + 1
  | .slice elems spare => uptoBulkAll elems + uptoBulkAll spare + 1
  | .agg parts => uptoBulkAll parts + 1
  | .iface _ d => uptoBulk d + 1
  | .map entries => uptoBulkEntries entries + 1
  | .held _ => 1
def uptoBulkAll {H : Type} : List (DataW H) → Nat
  | [] => 0
  | d :: r => uptoBulk d + uptoBulkAll r
def uptoBulkEntries {H : Type} : List (Lit × DataW H) → Nat
  | [] => 0
  | x :: r => uptoBulkEntry x + uptoBulkEntries r
def uptoBulkEntry {H : Type} : Lit × DataW H → Nat
  | (.string bytes, d) => bytes.length + uptoBulk d + 1
  | (_, d) => uptoBulk d + 1
 end
def uptoSmall : (H : Type) → List (DataW H) → Bool := fun _ ds => decide (uptoBulkAll ds ≤ 1048576)
def OpenSpec.upto (s : _root_.Go.ChangeSpec) : _root_.Go.OpenSpec := { _root_.Go.OpenSpec.ofChange s with cond := some uptoSmall }

/-- 'laws.FnPattern', WHERE WHAT IT READS IS OF BULK AT MOST 1048576: true; the input reads as it did. -/
def fnPatternUptoRow : OpenClaim := { program := "ytnccpifdajcejaa", sum := "bbbb73e9b78da9e6c5d4e80d1acc50244faf69e86f125f5ab40bfc243d44baa6", func := "loop.example/flatfolding/laws.FnPattern", spec := "fnPattern", apart := false, narrowed := true }
def FnPatternUptoSaid : Prop := fnPatternUptoRow.holds Try.pinned (OpenSpec.upto fnPatternSpec)

/-- 'laws.FnPatternJoinWithout', WHERE WHAT IT READS IS OF BULK AT MOST 1048576: true; the input reads as it did. -/
def fnPatternJoinWithoutUptoRow : OpenClaim := { program := "ytnccpifdajcejaa", sum := "bbbb73e9b78da9e6c5d4e80d1acc50244faf69e86f125f5ab40bfc243d44baa6", func := "loop.example/flatfolding/laws.FnPatternJoinWithout", spec := "fnPatternJoinWithout", apart := false, narrowed := true }
def FnPatternJoinWithoutUptoSaid : Prop := fnPatternJoinWithoutUptoRow.holds Try.pinned (OpenSpec.upto fnPatternJoinWithoutSpec)

/-- 'laws.FnPatternInner', WHERE WHAT IT READS IS OF BULK AT MOST 1048576: true; the input reads as it did. -/
def fnPatternInnerUptoRow : OpenClaim := { program := "ytnccpifdajcejaa", sum := "bbbb73e9b78da9e6c5d4e80d1acc50244faf69e86f125f5ab40bfc243d44baa6", func := "loop.example/flatfolding/laws.FnPatternInner", spec := "fnPatternInner", unfollowed := true, recurses := true, apart := false, narrowed := true }
def FnPatternInnerUptoSaid : Prop := fnPatternInnerUptoRow.holds Try.pinned (OpenSpec.upto fnPatternInnerSpec)

/-- 'laws.FnPatternTurn', WHERE WHAT IT READS IS OF BULK AT MOST 1048576: true; the input reads as it did. -/
def fnPatternTurnUptoRow : OpenClaim := { program := "ytnccpifdajcejaa", sum := "bbbb73e9b78da9e6c5d4e80d1acc50244faf69e86f125f5ab40bfc243d44baa6", func := "loop.example/flatfolding/laws.FnPatternTurn", spec := "fnPatternTurn", unfollowed := true, recurses := true, apart := false, narrowed := true }
def FnPatternTurnUptoSaid : Prop := fnPatternTurnUptoRow.holds Try.pinned (OpenSpec.upto fnPatternTurnSpec)

/-- 'laws.FnPatternWithout', WHERE WHAT IT READS IS OF BULK AT MOST 1048576: true; the input reads as it did. -/
def fnPatternWithoutUptoRow : OpenClaim := { program := "ytnccpifdajcejaa", sum := "bbbb73e9b78da9e6c5d4e80d1acc50244faf69e86f125f5ab40bfc243d44baa6", func := "loop.example/flatfolding/laws.FnPatternWithout", spec := "fnPatternWithout", unfollowed := true, recurses := true, apart := false, narrowed := true }
def FnPatternWithoutUptoSaid : Prop := fnPatternWithoutUptoRow.holds Try.pinned (OpenSpec.upto fnPatternWithoutSpec)

/-- 'laws.FnPatternFirst', WHERE WHAT IT READS IS OF BULK AT MOST 1048576: true; the input reads as it did. -/
def fnPatternFirstUptoRow : OpenClaim := { program := "ytnccpifdajcejaa", sum := "bbbb73e9b78da9e6c5d4e80d1acc50244faf69e86f125f5ab40bfc243d44baa6", func := "loop.example/flatfolding/laws.FnPatternFirst", spec := "fnPatternFirst", unfollowed := true, recurses := true, apart := false, narrowed := true }
def FnPatternFirstUptoSaid : Prop := fnPatternFirstUptoRow.holds Try.pinned (OpenSpec.upto fnPatternFirstSpec)

/-- 'laws.FnPatternJoin', WHERE WHAT IT READS IS OF BULK AT MOST 1048576: true; the input reads as it did. -/
def fnPatternJoinUptoRow : OpenClaim := { program := "ytnccpifdajcejaa", sum := "bbbb73e9b78da9e6c5d4e80d1acc50244faf69e86f125f5ab40bfc243d44baa6", func := "loop.example/flatfolding/laws.FnPatternJoin", spec := "fnPatternJoin", unfollowed := true, recurses := true, apart := false, narrowed := true }
def FnPatternJoinUptoSaid : Prop := fnPatternJoinUptoRow.holds Try.pinned (OpenSpec.upto fnPatternJoinSpec)

/-- 'laws.FnPatternMany', WHERE WHAT IT READS IS OF BULK AT MOST 1048576: true; the input reads as it did. -/
def fnPatternManyUptoRow : OpenClaim := { program := "ytnccpifdajcejaa", sum := "bbbb73e9b78da9e6c5d4e80d1acc50244faf69e86f125f5ab40bfc243d44baa6", func := "loop.example/flatfolding/laws.FnPatternMany", spec := "fnPatternMany", unfollowed := true, recurses := true, apart := false, narrowed := true }
def FnPatternManyUptoSaid : Prop := fnPatternManyUptoRow.holds Try.pinned (OpenSpec.upto fnPatternManySpec)

/-- 'laws.FnPatternCrimp', WHERE WHAT IT READS IS OF BULK AT MOST 1048576: true; the input reads as it did. -/
def fnPatternCrimpUptoRow : OpenClaim := { program := "ytnccpifdajcejaa", sum := "bbbb73e9b78da9e6c5d4e80d1acc50244faf69e86f125f5ab40bfc243d44baa6", func := "loop.example/flatfolding/laws.FnPatternCrimp", spec := "fnPatternCrimp", unfollowed := true, recurses := true, apart := false, narrowed := true }
def FnPatternCrimpUptoSaid : Prop := fnPatternCrimpUptoRow.holds Try.pinned (OpenSpec.upto fnPatternCrimpSpec)

/-- 'laws.FnPatternFolds', WHERE WHAT IT READS IS OF BULK AT MOST 1048576: true; the input reads as it did. -/
def fnPatternFoldsUptoRow : OpenClaim := { program := "ytnccpifdajcejaa", sum := "bbbb73e9b78da9e6c5d4e80d1acc50244faf69e86f125f5ab40bfc243d44baa6", func := "loop.example/flatfolding/laws.FnPatternFolds", spec := "fnPatternFolds", unfollowed := true, recurses := true, apart := false, narrowed := true }
def FnPatternFoldsUptoSaid : Prop := fnPatternFoldsUptoRow.holds Try.pinned (OpenSpec.upto fnPatternFoldsSpec)

/-- 'laws.FnPatternChain', WHERE WHAT IT READS IS OF BULK AT MOST 1048576: true; the input reads as it did. -/
def fnPatternChainUptoRow : OpenClaim := { program := "ytnccpifdajcejaa", sum := "bbbb73e9b78da9e6c5d4e80d1acc50244faf69e86f125f5ab40bfc243d44baa6", func := "loop.example/flatfolding/laws.FnPatternChain", spec := "fnPatternChain", unfollowed := true, recurses := true, apart := false, narrowed := true }
def FnPatternChainUptoSaid : Prop := fnPatternChainUptoRow.holds Try.pinned (OpenSpec.upto fnPatternChainSpec)

end Rows
end Go.Proofs.Ytnccpifdajcejaa
