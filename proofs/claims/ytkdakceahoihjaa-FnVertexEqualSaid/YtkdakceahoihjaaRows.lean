/-
  No cell of these rows narrows 'for every input' (looked for: loops, veiled, ifaces, maps, wideKeys, modest, calm, conditions, laid).
  DERIVED. THE GIVEN ROWS OF THIS SEAT. 13 by the template 'for every input the law returns true; each argument reads behind the call as it read before'; 0 by the template 'total and deterministic' (their statements: YtkdakceahoihjaaTotals.lean).
  GIVEN WITH THE SEED: the statements are not yours to turn. If you find one false, say at which input.
  Laid BY PROGRAM, IN A SANDBOX (cutbox-rows.mjs): the forced cells as the released guide's own fill.sh prints them over the translation cea1e755323cd4cb… (all of the seat's roots in one cut). By AI agents, Wed Nov 11 2026. No macro, syntax, notation, axiom, sorry.
-/
import Derived.Test.YtkdakceahoihjaaChecked
import GoSem.Claim
import GoSem.ClaimJoined
import GoSem.ClaimMapViews
import Derived.JoinedTies
import Derived.KernelRfl
namespace Go.Proofs.Ytkdakceahoihjaa
/- THE CELL 'sum', in the pinned program and in every row, IS THE sha256 OF THE DUMP (.gsa) THAT YtkdakceahoihjaaProg.lean LOADS. Nothing in Lean hashes anything: it is a label: what it is worth is what the hold of that sum in a sandbox is worth. -/
noncomputable def Try.pinned : Pinned := { name := "ytkdakceahoihjaa", sum := "cea1e755323cd4cbe43e8a2a446c31d1685f2ab150d79ce4a1cd7afd987d6989", checked := Try.checked }
namespace Rows
def none {H : Type} : Left H := { results := [], args := [] }

/-- 'laws.FnVertexNoCrimp': WHATEVER THE INPUT: true; the input reads as it did. -/
def fnVertexNoCrimpSpec : ChangeSpec := { name := "fnVertexNoCrimp", fn := fun _ => fun
  | [d] => { results := [.lit (.bool true)], args := [d] }
  | _ => none }
def fnVertexNoCrimpRow : OpenClaim := { program := "ytkdakceahoihjaa", sum := "cea1e755323cd4cbe43e8a2a446c31d1685f2ab150d79ce4a1cd7afd987d6989", func := "loop.example/flatfolding/laws.FnVertexNoCrimp", spec := "fnVertexNoCrimp", apart := false }
def FnVertexNoCrimpSaid : Prop := fnVertexNoCrimpRow.holds Try.pinned (OpenSpec.ofChange fnVertexNoCrimpSpec)

/-- ITS FALSE NEIGHBOUR: 'it returns false'. Refute it at one input. -/
def fnVertexNoCrimpWrong : ChangeSpec := { name := "fnVertexNoCrimp", fn := fun _ => fun
  | [d] => { results := [.lit (.bool false)], args := [d] }
  | _ => none }
def FnVertexNoCrimpWrongFalsely : Prop := fnVertexNoCrimpRow.holds Try.pinned (OpenSpec.ofChange fnVertexNoCrimpWrong)

/-- 'laws.FnVertexMany': WHATEVER THE INPUT: true; the input reads as it did. -/
def fnVertexManySpec : ChangeSpec := { name := "fnVertexMany", fn := fun _ => fun
  | [d1, d2] => { results := [.lit (.bool true)], args := [d1, d2] }
  | _ => none }
def fnVertexManyRow : OpenClaim := { program := "ytkdakceahoihjaa", sum := "cea1e755323cd4cbe43e8a2a446c31d1685f2ab150d79ce4a1cd7afd987d6989", func := "loop.example/flatfolding/laws.FnVertexMany", spec := "fnVertexMany", apart := false }
def FnVertexManySaid : Prop := fnVertexManyRow.holds Try.pinned (OpenSpec.ofChange fnVertexManySpec)

/-- ITS FALSE NEIGHBOUR: 'it returns false'. Refute it at one input. -/
def fnVertexManyWrong : ChangeSpec := { name := "fnVertexMany", fn := fun _ => fun
  | [d1, d2] => { results := [.lit (.bool false)], args := [d1, d2] }
  | _ => none }
def FnVertexManyWrongFalsely : Prop := fnVertexManyRow.holds Try.pinned (OpenSpec.ofChange fnVertexManyWrong)

/-- 'laws.FnCrimps': WHATEVER THE INPUT: true; the input reads as it did. -/
def fnCrimpsSpec : ChangeSpec := { name := "fnCrimps", fn := fun _ => fun
  | [d] => { results := [.lit (.bool true)], args := [d] }
  | _ => none }
def fnCrimpsRow : OpenClaim := { program := "ytkdakceahoihjaa", sum := "cea1e755323cd4cbe43e8a2a446c31d1685f2ab150d79ce4a1cd7afd987d6989", func := "loop.example/flatfolding/laws.FnCrimps", spec := "fnCrimps", apart := false }
def FnCrimpsSaid : Prop := fnCrimpsRow.holds Try.pinned (OpenSpec.ofChange fnCrimpsSpec)

/-- ITS FALSE NEIGHBOUR: 'it returns false'. Refute it at one input. -/
def fnCrimpsWrong : ChangeSpec := { name := "fnCrimps", fn := fun _ => fun
  | [d] => { results := [.lit (.bool false)], args := [d] }
  | _ => none }
def FnCrimpsWrongFalsely : Prop := fnCrimpsRow.holds Try.pinned (OpenSpec.ofChange fnCrimpsWrong)

/-- 'laws.FnVertexGeneric': WHATEVER THE INPUT: true; the input reads as it did. -/
def fnVertexGenericSpec : ChangeSpec := { name := "fnVertexGeneric", fn := fun _ => fun
  | [d] => { results := [.lit (.bool true)], args := [d] }
  | _ => none }
def fnVertexGenericRow : OpenClaim := { program := "ytkdakceahoihjaa", sum := "cea1e755323cd4cbe43e8a2a446c31d1685f2ab150d79ce4a1cd7afd987d6989", func := "loop.example/flatfolding/laws.FnVertexGeneric", spec := "fnVertexGeneric", apart := false }
def FnVertexGenericSaid : Prop := fnVertexGenericRow.holds Try.pinned (OpenSpec.ofChange fnVertexGenericSpec)

/-- ITS FALSE NEIGHBOUR: 'it returns false'. Refute it at one input. -/
def fnVertexGenericWrong : ChangeSpec := { name := "fnVertexGeneric", fn := fun _ => fun
  | [d] => { results := [.lit (.bool false)], args := [d] }
  | _ => none }
def FnVertexGenericWrongFalsely : Prop := fnVertexGenericRow.holds Try.pinned (OpenSpec.ofChange fnVertexGenericWrong)

/-- 'laws.FnVertexEqual': WHATEVER THE INPUT: true; the input reads as it did. -/
def fnVertexEqualSpec : ChangeSpec := { name := "fnVertexEqual", fn := fun _ => fun
  | [d1, d2] => { results := [.lit (.bool true)], args := [d1, d2] }
  | _ => none }
def fnVertexEqualRow : OpenClaim := { program := "ytkdakceahoihjaa", sum := "cea1e755323cd4cbe43e8a2a446c31d1685f2ab150d79ce4a1cd7afd987d6989", func := "loop.example/flatfolding/laws.FnVertexEqual", spec := "fnVertexEqual", apart := false }
def FnVertexEqualSaid : Prop := fnVertexEqualRow.holds Try.pinned (OpenSpec.ofChange fnVertexEqualSpec)

/-- ITS FALSE NEIGHBOUR: 'it returns false'. Refute it at one input. -/
def fnVertexEqualWrong : ChangeSpec := { name := "fnVertexEqual", fn := fun _ => fun
  | [d1, d2] => { results := [.lit (.bool false)], args := [d1, d2] }
  | _ => none }
def FnVertexEqualWrongFalsely : Prop := fnVertexEqualRow.holds Try.pinned (OpenSpec.ofChange fnVertexEqualWrong)

/-- 'laws.FnCrimpAny': WHATEVER THE INPUT: true; the input reads as it did. -/
def fnCrimpAnySpec : ChangeSpec := { name := "fnCrimpAny", fn := fun _ => fun
  | [d] => { results := [.lit (.bool true)], args := [d] }
  | _ => none }
def fnCrimpAnyRow : OpenClaim := { program := "ytkdakceahoihjaa", sum := "cea1e755323cd4cbe43e8a2a446c31d1685f2ab150d79ce4a1cd7afd987d6989", func := "loop.example/flatfolding/laws.FnCrimpAny", spec := "fnCrimpAny", apart := false }
def FnCrimpAnySaid : Prop := fnCrimpAnyRow.holds Try.pinned (OpenSpec.ofChange fnCrimpAnySpec)

/-- ITS FALSE NEIGHBOUR: 'it returns false'. Refute it at one input. -/
def fnCrimpAnyWrong : ChangeSpec := { name := "fnCrimpAny", fn := fun _ => fun
  | [d] => { results := [.lit (.bool false)], args := [d] }
  | _ => none }
def FnCrimpAnyWrongFalsely : Prop := fnCrimpAnyRow.holds Try.pinned (OpenSpec.ofChange fnCrimpAnyWrong)

/-- 'laws.FnMaekawa': WHATEVER THE INPUT: true; the input reads as it did. -/
def fnMaekawaSpec : ChangeSpec := { name := "fnMaekawa", fn := fun _ => fun
  | [d1, d2] => { results := [.lit (.bool true)], args := [d1, d2] }
  | _ => none }
def fnMaekawaRow : OpenClaim := { program := "ytkdakceahoihjaa", sum := "cea1e755323cd4cbe43e8a2a446c31d1685f2ab150d79ce4a1cd7afd987d6989", func := "loop.example/flatfolding/laws.FnMaekawa", spec := "fnMaekawa", apart := false }
def FnMaekawaSaid : Prop := fnMaekawaRow.holds Try.pinned (OpenSpec.ofChange fnMaekawaSpec)

/-- ITS FALSE NEIGHBOUR: 'it returns false'. Refute it at one input. -/
def fnMaekawaWrong : ChangeSpec := { name := "fnMaekawa", fn := fun _ => fun
  | [d1, d2] => { results := [.lit (.bool false)], args := [d1, d2] }
  | _ => none }
def FnMaekawaWrongFalsely : Prop := fnMaekawaRow.holds Try.pinned (OpenSpec.ofChange fnMaekawaWrong)

/-- 'laws.FnRingCrimpAny': WHATEVER THE INPUT: true; the input reads as it did. -/
def fnRingCrimpAnySpec : ChangeSpec := { name := "fnRingCrimpAny", fn := fun _ => fun
  | [d] => { results := [.lit (.bool true)], args := [d] }
  | _ => none }
def fnRingCrimpAnyRow : OpenClaim := { program := "ytkdakceahoihjaa", sum := "cea1e755323cd4cbe43e8a2a446c31d1685f2ab150d79ce4a1cd7afd987d6989", func := "loop.example/flatfolding/laws.FnRingCrimpAny", spec := "fnRingCrimpAny", apart := false }
def FnRingCrimpAnySaid : Prop := fnRingCrimpAnyRow.holds Try.pinned (OpenSpec.ofChange fnRingCrimpAnySpec)

/-- ITS FALSE NEIGHBOUR: 'it returns false'. Refute it at one input. -/
def fnRingCrimpAnyWrong : ChangeSpec := { name := "fnRingCrimpAny", fn := fun _ => fun
  | [d] => { results := [.lit (.bool false)], args := [d] }
  | _ => none }
def FnRingCrimpAnyWrongFalsely : Prop := fnRingCrimpAnyRow.holds Try.pinned (OpenSpec.ofChange fnRingCrimpAnyWrong)

/-- 'laws.FnRingPleat': WHATEVER THE INPUT: true; the input reads as it did. -/
def fnRingPleatSpec : ChangeSpec := { name := "fnRingPleat", fn := fun _ => fun
  | [d1, d2] => { results := [.lit (.bool true)], args := [d1, d2] }
  | _ => none }
def fnRingPleatRow : OpenClaim := { program := "ytkdakceahoihjaa", sum := "cea1e755323cd4cbe43e8a2a446c31d1685f2ab150d79ce4a1cd7afd987d6989", func := "loop.example/flatfolding/laws.FnRingPleat", spec := "fnRingPleat", unfollowed := true, recurses := true, apart := false }
def FnRingPleatSaid : Prop := fnRingPleatRow.holds Try.pinned (OpenSpec.ofChange fnRingPleatSpec)

/-- ITS FALSE NEIGHBOUR: 'it returns false'. Refute it at one input. -/
def fnRingPleatWrong : ChangeSpec := { name := "fnRingPleat", fn := fun _ => fun
  | [d1, d2] => { results := [.lit (.bool false)], args := [d1, d2] }
  | _ => none }
def FnRingPleatWrongFalsely : Prop := fnRingPleatRow.holds Try.pinned (OpenSpec.ofChange fnRingPleatWrong)

/-- 'laws.FnVertexRing': WHATEVER THE INPUT: true; the input reads as it did. -/
def fnVertexRingSpec : ChangeSpec := { name := "fnVertexRing", fn := fun _ => fun
  | [d1, d2] => { results := [.lit (.bool true)], args := [d1, d2] }
  | _ => none }
def fnVertexRingRow : OpenClaim := { program := "ytkdakceahoihjaa", sum := "cea1e755323cd4cbe43e8a2a446c31d1685f2ab150d79ce4a1cd7afd987d6989", func := "loop.example/flatfolding/laws.FnVertexRing", spec := "fnVertexRing", unfollowed := true, recurses := true, apart := false }
def FnVertexRingSaid : Prop := fnVertexRingRow.holds Try.pinned (OpenSpec.ofChange fnVertexRingSpec)

/-- ITS FALSE NEIGHBOUR: 'it returns false'. Refute it at one input. -/
def fnVertexRingWrong : ChangeSpec := { name := "fnVertexRing", fn := fun _ => fun
  | [d1, d2] => { results := [.lit (.bool false)], args := [d1, d2] }
  | _ => none }
def FnVertexRingWrongFalsely : Prop := fnVertexRingRow.holds Try.pinned (OpenSpec.ofChange fnVertexRingWrong)

/-- 'laws.FnRingTwoWays': WHATEVER THE INPUT: true; the input reads as it did. -/
def fnRingTwoWaysSpec : ChangeSpec := { name := "fnRingTwoWays", fn := fun _ => fun
  | [d] => { results := [.lit (.bool true)], args := [d] }
  | _ => none }
def fnRingTwoWaysRow : OpenClaim := { program := "ytkdakceahoihjaa", sum := "cea1e755323cd4cbe43e8a2a446c31d1685f2ab150d79ce4a1cd7afd987d6989", func := "loop.example/flatfolding/laws.FnRingTwoWays", spec := "fnRingTwoWays", unfollowed := true, recurses := true, apart := false }
def FnRingTwoWaysSaid : Prop := fnRingTwoWaysRow.holds Try.pinned (OpenSpec.ofChange fnRingTwoWaysSpec)

/-- ITS FALSE NEIGHBOUR: 'it returns false'. Refute it at one input. -/
def fnRingTwoWaysWrong : ChangeSpec := { name := "fnRingTwoWays", fn := fun _ => fun
  | [d] => { results := [.lit (.bool false)], args := [d] }
  | _ => none }
def FnRingTwoWaysWrongFalsely : Prop := fnRingTwoWaysRow.holds Try.pinned (OpenSpec.ofChange fnRingTwoWaysWrong)

/-- 'laws.FnWordStrip': WHATEVER THE INPUT: true; the input reads as it did. -/
def fnWordStripSpec : ChangeSpec := { name := "fnWordStrip", fn := fun _ => fun
  | [d] => { results := [.lit (.bool true)], args := [d] }
  | _ => none }
def fnWordStripRow : OpenClaim := { program := "ytkdakceahoihjaa", sum := "cea1e755323cd4cbe43e8a2a446c31d1685f2ab150d79ce4a1cd7afd987d6989", func := "loop.example/flatfolding/laws.FnWordStrip", spec := "fnWordStrip", unfollowed := true, recurses := true, apart := false }
def FnWordStripSaid : Prop := fnWordStripRow.holds Try.pinned (OpenSpec.ofChange fnWordStripSpec)

/-- ITS FALSE NEIGHBOUR: 'it returns false'. Refute it at one input. -/
def fnWordStripWrong : ChangeSpec := { name := "fnWordStrip", fn := fun _ => fun
  | [d] => { results := [.lit (.bool false)], args := [d] }
  | _ => none }
def FnWordStripWrongFalsely : Prop := fnWordStripRow.holds Try.pinned (OpenSpec.ofChange fnWordStripWrong)

/-- 'laws.FnCorner': WHATEVER THE INPUT: true; the input reads as it did. -/
def fnCornerSpec : ChangeSpec := { name := "fnCorner", fn := fun _ => fun
  | [d] => { results := [.lit (.bool true)], args := [d] }
  | _ => none }
def fnCornerRow : OpenClaim := { program := "ytkdakceahoihjaa", sum := "cea1e755323cd4cbe43e8a2a446c31d1685f2ab150d79ce4a1cd7afd987d6989", func := "loop.example/flatfolding/laws.FnCorner", spec := "fnCorner", unfollowed := true, recurses := true, apart := false }
def FnCornerSaid : Prop := fnCornerRow.holds Try.pinned (OpenSpec.ofChange fnCornerSpec)

/-- ITS FALSE NEIGHBOUR: 'it returns false'. Refute it at one input. -/
def fnCornerWrong : ChangeSpec := { name := "fnCorner", fn := fun _ => fun
  | [d] => { results := [.lit (.bool false)], args := [d] }
  | _ => none }
def FnCornerWrongFalsely : Prop := fnCornerRow.holds Try.pinned (OpenSpec.ofChange fnCornerWrong)

/- THE SECOND FORM. 'bulk': how many values and letters a reading holds, each counted each time it is reached (what is shared counts as often as it is met; a slice's spare places count too). A statement '..UptoSaid' is the law's where the arguments, and the package variables that the reading takes, are together of bulk at most 1048576: NARROWER than '..Said'. Prove '..Said' where nothing that the law and all that it calls make is longer than what came in: it says more and counts as full. Else prove '..UptoSaid'. A law counts once. -/
mutual
def uptoBulk {H : Type} : DataW H → Nat
  | .lit (.string bytes) => bytes.length + 1
  | .lit _ => 1
  | .nil => 1
  | .ptr d => uptoBulk d + 1
  | .slice elems spare => uptoBulkAll elems + uptoBulkAll spare + 1
  | .agg parts => uptoBulkAll parts + 1
  | .iface _ d => uptoBulk d + 1
  | .map entries => uptoBulkEntries entries + 1
  | .held _ => 1
def uptoBulkAll {H : Type} : List (DataW H) → Nat
  | [] => 0
  | d :: r => uptoBulk d + uptoBulkAll r
def uptoBulkEntries {H : Type} : List (Lit × DataW H) → Nat
  | [] => 0
  | x :: r => uptoBulkEntry x + uptoBulkEntries r
def uptoBulkEntry {H : Type} : Lit × DataW H → Nat
  | (.string bytes, d) => bytes.length + uptoBulk d + 1
  | (_, d) => uptoBulk d + 1
 end
def uptoSmall : (H : Type) → List (DataW H) → Bool := fun _ ds => decide (uptoBulkAll ds ≤ 1048576)
def OpenSpec.upto (s : _root_.Go.ChangeSpec) : _root_.Go.OpenSpec := { _root_.Go.OpenSpec.ofChange s with cond := some uptoSmall }

/-- 'laws.FnVertexNoCrimp', WHERE WHAT IT READS IS OF BULK AT MOST 1048576: true; the input reads as it did. -/
def fnVertexNoCrimpUptoRow : OpenClaim := { program := "ytkdakceahoihjaa", sum := "cea1e755323cd4cbe43e8a2a446c31d1685f2ab150d79ce4a1cd7afd987d6989", func := "loop.example/flatfolding/laws.FnVertexNoCrimp", spec := "fnVertexNoCrimp", apart := false, narrowed := true }
def FnVertexNoCrimpUptoSaid : Prop := fnVertexNoCrimpUptoRow.holds Try.pinned (OpenSpec.upto fnVertexNoCrimpSpec)

/-- 'laws.FnVertexMany', WHERE WHAT IT READS IS OF BULK AT MOST 1048576: true; the input reads as it did. -/
def fnVertexManyUptoRow : OpenClaim := { program := "ytkdakceahoihjaa", sum := "cea1e755323cd4cbe43e8a2a446c31d1685f2ab150d79ce4a1cd7afd987d6989", func := "loop.example/flatfolding/laws.FnVertexMany", spec := "fnVertexMany", apart := false, narrowed := true }
def FnVertexManyUptoSaid : Prop := fnVertexManyUptoRow.holds Try.pinned (OpenSpec.upto fnVertexManySpec)

/-- 'laws.FnCrimps', WHERE WHAT IT READS IS OF BULK AT MOST 1048576: true; the input reads as it did. -/
def fnCrimpsUptoRow : OpenClaim := { program := "ytkdakceahoihjaa", sum := "cea1e755323cd4cbe43e8a2a446c31d1685f2ab150d79ce4a1cd7afd987d6989", func := "loop.example/flatfolding/laws.FnCrimps", spec := "fnCrimps", apart := false, narrowed := true }
def FnCrimpsUptoSaid : Prop := fnCrimpsUptoRow.holds Try.pinned (OpenSpec.upto fnCrimpsSpec)

/-- 'laws.FnVertexGeneric', WHERE WHAT IT READS IS OF BULK AT MOST 1048576: true; the input reads as it did. -/
def fnVertexGenericUptoRow : OpenClaim := { program := "ytkdakceahoihjaa", sum := "cea1e755323cd4cbe43e8a2a446c31d1685f2ab150d79ce4a1cd7afd987d6989", func := "loop.example/flatfolding/laws.FnVertexGeneric", spec := "fnVertexGeneric", apart := false, narrowed := true }
def FnVertexGenericUptoSaid : Prop := fnVertexGenericUptoRow.holds Try.pinned (OpenSpec.upto fnVertexGenericSpec)

/-- 'laws.FnVertexEqual', WHERE WHAT IT READS IS OF BULK AT MOST 1048576: true; the input reads as it did. -/
def fnVertexEqualUptoRow : OpenClaim := { program := "ytkdakceahoihjaa", sum := "cea1e755323cd4cbe43e8a2a446c31d1685f2ab150d79ce4a1cd7afd987d6989", func := "loop.example/flatfolding/laws.FnVertexEqual", spec := "fnVertexEqual", apart := false, narrowed := true }
def FnVertexEqualUptoSaid : Prop := fnVertexEqualUptoRow.holds Try.pinned (OpenSpec.upto fnVertexEqualSpec)

/-- 'laws.FnCrimpAny', WHERE WHAT IT READS IS OF BULK AT MOST 1048576: true; the input reads as it did. -/
def fnCrimpAnyUptoRow : OpenClaim := { program := "ytkdakceahoihjaa", sum := "cea1e755323cd4cbe43e8a2a446c31d1685f2ab150d79ce4a1cd7afd987d6989", func := "loop.example/flatfolding/laws.FnCrimpAny", spec := "fnCrimpAny", apart := false, narrowed := true }
def FnCrimpAnyUptoSaid : Prop := fnCrimpAnyUptoRow.holds Try.pinned (OpenSpec.upto fnCrimpAnySpec)

/-- 'laws.FnMaekawa', WHERE WHAT IT READS IS OF BULK AT MOST 1048576: true; the input reads as it did. -/
def fnMaekawaUptoRow : OpenClaim := { program := "ytkdakceahoihjaa", sum := "cea1e755323cd4cbe43e8a2a446c31d1685f2ab150d79ce4a1cd7afd987d6989", func := "loop.example/flatfolding/laws.FnMaekawa", spec := "fnMaekawa", apart := false, narrowed := true }
def FnMaekawaUptoSaid : Prop := fnMaekawaUptoRow.holds Try.pinned (OpenSpec.upto fnMaekawaSpec)

/-- 'laws.FnRingCrimpAny', WHERE WHAT IT READS IS OF BULK AT MOST 1048576: true; the input reads as it did. -/
def fnRingCrimpAnyUptoRow : OpenClaim := { program := "ytkdakceahoihjaa", sum := "cea1e755323cd4cbe43e8a2a446c31d1685f2ab150d79ce4a1cd7afd987d6989", func := "loop.example/flatfolding/laws.FnRingCrimpAny", spec := "fnRingCrimpAny", apart := false, narrowed := true }
def FnRingCrimpAnyUptoSaid : Prop := fnRingCrimpAnyUptoRow.holds Try.pinned (OpenSpec.upto fnRingCrimpAnySpec)

/-- 'laws.FnRingPleat', WHERE WHAT IT READS IS OF BULK AT MOST 1048576: true; the input reads as it did. -/
def fnRingPleatUptoRow : OpenClaim := { program := "ytkdakceahoihjaa", sum := "cea1e755323cd4cbe43e8a2a446c31d1685f2ab150d79ce4a1cd7afd987d6989", func := "loop.example/flatfolding/laws.FnRingPleat", spec := "fnRingPleat", unfollowed := true, recurses := true, apart := false, narrowed := true }
def FnRingPleatUptoSaid : Prop := fnRingPleatUptoRow.holds Try.pinned (OpenSpec.upto fnRingPleatSpec)

/-- 'laws.FnVertexRing', WHERE WHAT IT READS IS OF BULK AT MOST 1048576: true; the input reads as it did. -/
def fnVertexRingUptoRow : OpenClaim := { program := "ytkdakceahoihjaa", sum := "cea1e755323cd4cbe43e8a2a446c31d1685f2ab150d79ce4a1cd7afd987d6989", func := "loop.example/flatfolding/laws.FnVertexRing", spec := "fnVertexRing", unfollowed := true, recurses := true, apart := false, narrowed := true }
def FnVertexRingUptoSaid : Prop := fnVertexRingUptoRow.holds Try.pinned (OpenSpec.upto fnVertexRingSpec)

/-- 'laws.FnRingTwoWays', WHERE WHAT IT READS IS OF BULK AT MOST 1048576: true; the input reads as it did. -/
def fnRingTwoWaysUptoRow : OpenClaim := { program := "ytkdakceahoihjaa", sum := "cea1e755323cd4cbe43e8a2a446c31d1685f2ab150d79ce4a1cd7afd987d6989", func := "loop.example/flatfolding/laws.FnRingTwoWays", spec := "fnRingTwoWays", unfollowed := true, recurses := true, apart := false, narrowed := true }
def FnRingTwoWaysUptoSaid : Prop := fnRingTwoWaysUptoRow.holds Try.pinned (OpenSpec.upto fnRingTwoWaysSpec)

/-- 'laws.FnWordStrip', WHERE WHAT IT READS IS OF BULK AT MOST 1048576: true; the input reads as it did. -/
def fnWordStripUptoRow : OpenClaim := { program := "ytkdakceahoihjaa", sum := "cea1e755323cd4cbe43e8a2a446c31d1685f2ab150d79ce4a1cd7afd987d6989", func := "loop.example/flatfolding/laws.FnWordStrip", spec := "fnWordStrip", unfollowed := true, recurses := true, apart := false, narrowed := true }
def FnWordStripUptoSaid : Prop := fnWordStripUptoRow.holds Try.pinned (OpenSpec.upto fnWordStripSpec)

/-- 'laws.FnCorner', WHERE WHAT IT READS IS OF BULK AT MOST 1048576: true; the input reads as it did. -/
def fnCornerUptoRow : OpenClaim := { program := "ytkdakceahoihjaa", sum := "cea1e755323cd4cbe43e8a2a446c31d1685f2ab150d79ce4a1cd7afd987d6989", func := "loop.example/flatfolding/laws.FnCorner", spec := "fnCorner", unfollowed := true, recurses := true, apart := false, narrowed := true }
def FnCornerUptoSaid : Prop := fnCornerUptoRow.holds Try.pinned (OpenSpec.upto fnCornerSpec)

end Rows
end Go.Proofs.Ytkdakceahoihjaa
