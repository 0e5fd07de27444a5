/-
  No cell of these rows narrows 'for every input' (looked for: loops, veiled, ifaces, maps, wideKeys, modest, calm, conditions, laid).
  DERIVED. THE GIVEN ROWS OF THIS SEAT. 8 by the template 'for every input the law returns true; each argument reads behind the call as it read before'; 0 by the template 'total and deterministic' (their statements: YtlbkfphepneflaaTotals.lean).
  GIVEN WITH THE SEED: the statements are not yours to turn. If you find one false, say at which input.
  Laid BY PROGRAM, IN A SANDBOX (cutbox-rows.mjs): the forced cells as the released guide's own fill.sh prints them over the translation 12edc4003938be72… (all of the seat's roots in one cut). By AI agents, Wed Nov 11 2026. No macro, syntax, notation, axiom, sorry.
-/
import Derived.Test.YtlbkfphepneflaaChecked
import GoSem.Claim
import GoSem.ClaimJoined
import GoSem.ClaimMapViews
import Derived.JoinedTies
import Derived.KernelRfl
namespace Go.Proofs.Ytlbkfphepneflaa
/- THE CELL 'sum', in the pinned program and in every row, IS THE sha256 OF THE DUMP (.gsa) THAT YtlbkfphepneflaaProg.lean LOADS. Nothing in Lean hashes anything: it is a label: what it is worth is what the hold of that sum in a sandbox is worth. -/
noncomputable def Try.pinned : Pinned := { name := "ytlbkfphepneflaa", sum := "12edc4003938be726221d4fbd0a586c6e39d0fd8116df233ae5a15d48fd9d8fe", checked := Try.checked }
namespace Rows
def none {H : Type} : Left H := { results := [], args := [] }

/-- 'garmentlaw46.LineBounds': WHATEVER THE INPUT: true; the input reads as it did. -/
def lineBoundsSpec : ChangeSpec := { name := "lineBounds", fn := fun _ => fun
  | [d1, d2] => { results := [.lit (.bool true)], args := [d1, d2] }
  | _ => none }
def lineBoundsRow : OpenClaim := { program := "ytlbkfphepneflaa", sum := "12edc4003938be726221d4fbd0a586c6e39d0fd8116df233ae5a15d48fd9d8fe", func := "garment/garmentlaw46.LineBounds", spec := "lineBounds", apart := false }
def LineBoundsSaid : Prop := lineBoundsRow.holds Try.pinned (OpenSpec.ofChange lineBoundsSpec)

/-- ITS FALSE NEIGHBOUR: 'it returns false'. Refute it at one input. -/
def lineBoundsWrong : ChangeSpec := { name := "lineBounds", fn := fun _ => fun
  | [d1, d2] => { results := [.lit (.bool false)], args := [d1, d2] }
  | _ => none }
def LineBoundsWrongFalsely : Prop := lineBoundsRow.holds Try.pinned (OpenSpec.ofChange lineBoundsWrong)

/-- 'garmentlaw46.LineBalances': WHATEVER THE INPUT: true; the input reads as it did. -/
def lineBalancesSpec : ChangeSpec := { name := "lineBalances", fn := fun _ => fun
  | [d1, d2] => { results := [.lit (.bool true)], args := [d1, d2] }
  | _ => none }
def lineBalancesRow : OpenClaim := { program := "ytlbkfphepneflaa", sum := "12edc4003938be726221d4fbd0a586c6e39d0fd8116df233ae5a15d48fd9d8fe", func := "garment/garmentlaw46.LineBalances", spec := "lineBalances", recurses := true, apart := false }
def LineBalancesSaid : Prop := lineBalancesRow.holds Try.pinned (OpenSpec.ofChange lineBalancesSpec)

/-- ITS FALSE NEIGHBOUR: 'it returns false'. Refute it at one input. -/
def lineBalancesWrong : ChangeSpec := { name := "lineBalances", fn := fun _ => fun
  | [d1, d2] => { results := [.lit (.bool false)], args := [d1, d2] }
  | _ => none }
def LineBalancesWrongFalsely : Prop := lineBalancesRow.holds Try.pinned (OpenSpec.ofChange lineBalancesWrong)

/-- 'garmentlaw46.LineChecks': WHATEVER THE INPUT: true; the input reads as it did. -/
def lineChecksSpec : ChangeSpec := { name := "lineChecks", fn := fun _ => fun
  | [d1, d2, d3] => { results := [.lit (.bool true)], args := [d1, d2, d3] }
  | _ => none }
def lineChecksRow : OpenClaim := { program := "ytlbkfphepneflaa", sum := "12edc4003938be726221d4fbd0a586c6e39d0fd8116df233ae5a15d48fd9d8fe", func := "garment/garmentlaw46.LineChecks", spec := "lineChecks", apart := false }
def LineChecksSaid : Prop := lineChecksRow.holds Try.pinned (OpenSpec.ofChange lineChecksSpec)

/-- ITS FALSE NEIGHBOUR: 'it returns false'. Refute it at one input. -/
def lineChecksWrong : ChangeSpec := { name := "lineChecks", fn := fun _ => fun
  | [d1, d2, d3] => { results := [.lit (.bool false)], args := [d1, d2, d3] }
  | _ => none }
def LineChecksWrongFalsely : Prop := lineChecksRow.holds Try.pinned (OpenSpec.ofChange lineChecksWrong)

/-- 'garmentlaw46.LineValid': WHATEVER THE INPUT: true; the input reads as it did. -/
def lineValidSpec : ChangeSpec := { name := "lineValid", fn := fun _ => fun
  | [d1, d2] => { results := [.lit (.bool true)], args := [d1, d2] }
  | _ => none }
def lineValidRow : OpenClaim := { program := "ytlbkfphepneflaa", sum := "12edc4003938be726221d4fbd0a586c6e39d0fd8116df233ae5a15d48fd9d8fe", func := "garment/garmentlaw46.LineValid", spec := "lineValid", apart := false }
def LineValidSaid : Prop := lineValidRow.holds Try.pinned (OpenSpec.ofChange lineValidSpec)

/-- ITS FALSE NEIGHBOUR: 'it returns false'. Refute it at one input. -/
def lineValidWrong : ChangeSpec := { name := "lineValid", fn := fun _ => fun
  | [d1, d2] => { results := [.lit (.bool false)], args := [d1, d2] }
  | _ => none }
def LineValidWrongFalsely : Prop := lineValidRow.holds Try.pinned (OpenSpec.ofChange lineValidWrong)

/-- 'garmentlaw46.LineOptimal': WHATEVER THE INPUT: true; the input reads as it did. -/
def lineOptimalSpec : ChangeSpec := { name := "lineOptimal", fn := fun _ => fun
  | [d1, d2, d3] => { results := [.lit (.bool true)], args := [d1, d2, d3] }
  | _ => none }
def lineOptimalRow : OpenClaim := { program := "ytlbkfphepneflaa", sum := "12edc4003938be726221d4fbd0a586c6e39d0fd8116df233ae5a15d48fd9d8fe", func := "garment/garmentlaw46.LineOptimal", spec := "lineOptimal", apart := false }
def LineOptimalSaid : Prop := lineOptimalRow.holds Try.pinned (OpenSpec.ofChange lineOptimalSpec)

/-- ITS FALSE NEIGHBOUR: 'it returns false'. Refute it at one input. -/
def lineOptimalWrong : ChangeSpec := { name := "lineOptimal", fn := fun _ => fun
  | [d1, d2, d3] => { results := [.lit (.bool false)], args := [d1, d2, d3] }
  | _ => none }
def LineOptimalWrongFalsely : Prop := lineOptimalRow.holds Try.pinned (OpenSpec.ofChange lineOptimalWrong)

/-- 'garmentlaw46.LineCycles': WHATEVER THE INPUT: true; the input reads as it did. -/
def lineCyclesSpec : ChangeSpec := { name := "lineCycles", fn := fun _ => fun
  | [d1, d2, d3] => { results := [.lit (.bool true)], args := [d1, d2, d3] }
  | _ => none }
def lineCyclesRow : OpenClaim := { program := "ytlbkfphepneflaa", sum := "12edc4003938be726221d4fbd0a586c6e39d0fd8116df233ae5a15d48fd9d8fe", func := "garment/garmentlaw46.LineCycles", spec := "lineCycles", apart := false }
def LineCyclesSaid : Prop := lineCyclesRow.holds Try.pinned (OpenSpec.ofChange lineCyclesSpec)

/-- ITS FALSE NEIGHBOUR: 'it returns false'. Refute it at one input. -/
def lineCyclesWrong : ChangeSpec := { name := "lineCycles", fn := fun _ => fun
  | [d1, d2, d3] => { results := [.lit (.bool false)], args := [d1, d2, d3] }
  | _ => none }
def LineCyclesWrongFalsely : Prop := lineCyclesRow.holds Try.pinned (OpenSpec.ofChange lineCyclesWrong)

/-- 'garmentlaw46.LineHalves': WHATEVER THE INPUT: true; the input reads as it did. -/
def lineHalvesSpec : ChangeSpec := { name := "lineHalves", fn := fun _ => fun
  | [d1, d2] => { results := [.lit (.bool true)], args := [d1, d2] }
  | _ => none }
def lineHalvesRow : OpenClaim := { program := "ytlbkfphepneflaa", sum := "12edc4003938be726221d4fbd0a586c6e39d0fd8116df233ae5a15d48fd9d8fe", func := "garment/garmentlaw46.LineHalves", spec := "lineHalves", apart := false }
def LineHalvesSaid : Prop := lineHalvesRow.holds Try.pinned (OpenSpec.ofChange lineHalvesSpec)

/-- ITS FALSE NEIGHBOUR: 'it returns false'. Refute it at one input. -/
def lineHalvesWrong : ChangeSpec := { name := "lineHalves", fn := fun _ => fun
  | [d1, d2] => { results := [.lit (.bool false)], args := [d1, d2] }
  | _ => none }
def LineHalvesWrongFalsely : Prop := lineHalvesRow.holds Try.pinned (OpenSpec.ofChange lineHalvesWrong)

/-- 'garmentlaw46.LineDrops': WHATEVER THE INPUT: true; the input reads as it did. -/
def lineDropsSpec : ChangeSpec := { name := "lineDrops", fn := fun _ => fun
  | [d1, d2] => { results := [.lit (.bool true)], args := [d1, d2] }
  | _ => none }
def lineDropsRow : OpenClaim := { program := "ytlbkfphepneflaa", sum := "12edc4003938be726221d4fbd0a586c6e39d0fd8116df233ae5a15d48fd9d8fe", func := "garment/garmentlaw46.LineDrops", spec := "lineDrops", apart := false }
def LineDropsSaid : Prop := lineDropsRow.holds Try.pinned (OpenSpec.ofChange lineDropsSpec)

/-- ITS FALSE NEIGHBOUR: 'it returns false'. Refute it at one input. -/
def lineDropsWrong : ChangeSpec := { name := "lineDrops", fn := fun _ => fun
  | [d1, d2] => { results := [.lit (.bool false)], args := [d1, d2] }
  | _ => none }
def LineDropsWrongFalsely : Prop := lineDropsRow.holds Try.pinned (OpenSpec.ofChange lineDropsWrong)

/- THE SECOND FORM. 'bulk': how many values and letters a reading holds, each counted each time it is reached (what is shared counts as often as it is met; a slice's spare places count too). A statement '..UptoSaid' is the law's where the arguments, and the package variables that the reading takes, are together of bulk at most 1048576: NARROWER than '..Said'. Prove '..Said' where nothing that the law and all that it calls make is longer than what came in: it says more and counts as full. Else prove '..UptoSaid'. A law counts once. -/
mutual
def uptoBulk {H : Type} : DataW H → Nat
  | .lit (.string bytes) => bytes.length + 1
  | .lit _ => 1
  | .nil => 1
  | .ptr d => uptoBulk d + 1
  | .slice elems spare => uptoBulkAll elems + uptoBulkAll spare + 1
  | .agg parts => uptoBulkAll parts + 1
  | .iface _ d => uptoBulk d + 1
  | .map entries => uptoBulkEntries entries + 1
  | .held _ => 1
def uptoBulkAll {H : Type} : List (DataW H) → Nat
  | [] => 0
  | d :: r => uptoBulk d + uptoBulkAll r
def uptoBulkEntries {H : Type} : List (Lit × DataW H) → Nat
  | [] => 0
  | x :: r => uptoBulkEntry x + uptoBulkEntries r
def uptoBulkEntry {H : Type} : Lit × DataW H → Nat
  | (.string bytes, d) => bytes.length + uptoBulk d + 1
  | (_, d) => uptoBulk d + 1
 end
def uptoSmall : (H : Type) → List (DataW H) → Bool := fun _ ds => decide (uptoBulkAll ds ≤ 1048576)
def OpenSpec.upto (s : _root_.Go.ChangeSpec) : _root_.Go.OpenSpec := { _root_.Go.OpenSpec.ofChange s with cond := some uptoSmall }

/-- 'garmentlaw46.LineBounds', WHERE WHAT IT READS IS OF BULK AT MOST 1048576: true; the input reads as it did. -/
def lineBoundsUptoRow : OpenClaim := { program := "ytlbkfphepneflaa", sum := "12edc4003938be726221d4fbd0a586c6e39d0fd8116df233ae5a15d48fd9d8fe", func := "garment/garmentlaw46.LineBounds", spec := "lineBounds", apart := false, narrowed := true }
def LineBoundsUptoSaid : Prop := lineBoundsUptoRow.holds Try.pinned (OpenSpec.upto lineBoundsSpec)

/-- 'garmentlaw46.LineBalances', WHERE WHAT IT READS IS OF BULK AT MOST 1048576: true; the input reads as it did. -/
def lineBalancesUptoRow : OpenClaim := { program := "ytlbkfphepneflaa", sum := "12edc4003938be726221d4fbd0a586c6e39d0fd8116df233ae5a15d48fd9d8fe", func := "garment/garmentlaw46.LineBalances", spec := "lineBalances", recurses := true, apart := false, narrowed := true }
def LineBalancesUptoSaid : Prop := lineBalancesUptoRow.holds Try.pinned (OpenSpec.upto lineBalancesSpec)

/-- 'garmentlaw46.LineChecks', WHERE WHAT IT READS IS OF BULK AT MOST 1048576: true; the input reads as it did. -/
def lineChecksUptoRow : OpenClaim := { program := "ytlbkfphepneflaa", sum := "12edc4003938be726221d4fbd0a586c6e39d0fd8116df233ae5a15d48fd9d8fe", func := "garment/garmentlaw46.LineChecks", spec := "lineChecks", apart := false, narrowed := true }
def LineChecksUptoSaid : Prop := lineChecksUptoRow.holds Try.pinned (OpenSpec.upto lineChecksSpec)

/-- 'garmentlaw46.LineValid', WHERE WHAT IT READS IS OF BULK AT MOST 1048576: true; the input reads as it did. -/
def lineValidUptoRow : OpenClaim := { program := "ytlbkfphepneflaa", sum := "12edc4003938be726221d4fbd0a586c6e39d0fd8116df233ae5a15d48fd9d8fe", func := "garment/garmentlaw46.LineValid", spec := "lineValid", apart := false, narrowed := true }
def LineValidUptoSaid : Prop := lineValidUptoRow.holds Try.pinned (OpenSpec.upto lineValidSpec)

/-- 'garmentlaw46.LineOptimal', WHERE WHAT IT READS IS OF BULK AT MOST 1048576: true; the input reads as it did. -/
def lineOptimalUptoRow : OpenClaim := { program := "ytlbkfphepneflaa", sum := "12edc4003938be726221d4fbd0a586c6e39d0fd8116df233ae5a15d48fd9d8fe", func := "garment/garmentlaw46.LineOptimal", spec := "lineOptimal", apart := false, narrowed := true }
def LineOptimalUptoSaid : Prop := lineOptimalUptoRow.holds Try.pinned (OpenSpec.upto lineOptimalSpec)

/-- 'garmentlaw46.LineCycles', WHERE WHAT IT READS IS OF BULK AT MOST 1048576: true; the input reads as it did. -/
def lineCyclesUptoRow : OpenClaim := { program := "ytlbkfphepneflaa", sum := "12edc4003938be726221d4fbd0a586c6e39d0fd8116df233ae5a15d48fd9d8fe", func := "garment/garmentlaw46.LineCycles", spec := "lineCycles", apart := false, narrowed := true }
def LineCyclesUptoSaid : Prop := lineCyclesUptoRow.holds Try.pinned (OpenSpec.upto lineCyclesSpec)

/-- 'garmentlaw46.LineHalves', WHERE WHAT IT READS IS OF BULK AT MOST 1048576: true; the input reads as it did. -/
def lineHalvesUptoRow : OpenClaim := { program := "ytlbkfphepneflaa", sum := "12edc4003938be726221d4fbd0a586c6e39d0fd8116df233ae5a15d48fd9d8fe", func := "garment/garmentlaw46.LineHalves", spec := "lineHalves", apart := false, narrowed := true }
def LineHalvesUptoSaid : Prop := lineHalvesUptoRow.holds Try.pinned (OpenSpec.upto lineHalvesSpec)

/-- 'garmentlaw46.LineDrops', WHERE WHAT IT READS IS OF BULK AT MOST 1048576: true; the input reads as it did. -/
def lineDropsUptoRow : OpenClaim := { program := "ytlbkfphepneflaa", sum := "12edc4003938be726221d4fbd0a586c6e39d0fd8116df233ae5a15d48fd9d8fe", func := "garment/garmentlaw46.LineDrops", spec := "lineDrops", apart := false, narrowed := true }
def LineDropsUptoSaid : Prop := lineDropsUptoRow.holds Try.pinned (OpenSpec.upto lineDropsSpec)

end Rows
end Go.Proofs.Ytlbkfphepneflaa
