/-
  No cell of these rows narrows 'for every input' (looked for: loops, veiled, ifaces, maps, wideKeys, modest, calm, conditions, laid).
  DERIVED. THE GIVEN ROWS OF THIS SEAT. 9 by the template 'for every input the law returns true; each argument reads behind the call as it read before'; 0 by the template 'total and deterministic' (their statements: YtelgkangojmhdaaTotals.lean).
  GIVEN WITH THE SEED: the statements are not yours to turn. If you find one false, say at which input.
  Laid BY PROGRAM, IN A SANDBOX (cutbox-rows.mjs): the forced cells as the released guide's own fill.sh prints them over the translation 2aa2aa4de97777a6… (all of the seat's roots in one cut). By AI agents, Wed Nov 11 2026. No macro, syntax, notation, axiom, sorry.
-/
import Derived.Test.YtelgkangojmhdaaChecked
import GoSem.Claim
import GoSem.ClaimJoined
import GoSem.ClaimMapViews
import Derived.JoinedTies
import Derived.KernelRfl
namespace Go.Proofs.Ytelgkangojmhdaa
/- THE CELL 'sum', in the pinned program and in every row, IS THE sha256 OF THE DUMP (.gsa) THAT YtelgkangojmhdaaProg.lean LOADS. Nothing in Lean hashes anything: it is a label: what it is worth is what the hold of that sum in a sandbox is worth. -/
noncomputable def Try.pinned : Pinned := { name := "ytelgkangojmhdaa", sum := "2aa2aa4de97777a6194971c7a98f453da4536fdf71d71e5090092e9789e8e44f", checked := Try.checked }
namespace Rows
def none {H : Type} : Left H := { results := [], args := [] }

/-- 'garmentlaw49.FlowBegins': WHATEVER THE INPUT: true; the input reads as it did. -/
def flowBeginsSpec : ChangeSpec := { name := "flowBegins", fn := fun _ => fun
  | [d] => { results := [.lit (.bool true)], args := [d] }
  | _ => none }
def flowBeginsRow : OpenClaim := { program := "ytelgkangojmhdaa", sum := "2aa2aa4de97777a6194971c7a98f453da4536fdf71d71e5090092e9789e8e44f", func := "garment/garmentlaw49.FlowBegins", spec := "flowBegins", unfollowed := true, recurses := true, apart := false }
def FlowBeginsSaid : Prop := flowBeginsRow.holds Try.pinned (OpenSpec.ofChange flowBeginsSpec)

/-- ITS FALSE NEIGHBOUR: 'it returns false'. Refute it at one input. -/
def flowBeginsWrong : ChangeSpec := { name := "flowBegins", fn := fun _ => fun
  | [d] => { results := [.lit (.bool false)], args := [d] }
  | _ => none }
def FlowBeginsWrongFalsely : Prop := flowBeginsRow.holds Try.pinned (OpenSpec.ofChange flowBeginsWrong)

/-- 'garmentlaw49.FlowBounds': WHATEVER THE INPUT: true; the input reads as it did. -/
def flowBoundsSpec : ChangeSpec := { name := "flowBounds", fn := fun _ => fun
  | [d] => { results := [.lit (.bool true)], args := [d] }
  | _ => none }
def flowBoundsRow : OpenClaim := { program := "ytelgkangojmhdaa", sum := "2aa2aa4de97777a6194971c7a98f453da4536fdf71d71e5090092e9789e8e44f", func := "garment/garmentlaw49.FlowBounds", spec := "flowBounds", unfollowed := true, recurses := true, apart := false }
def FlowBoundsSaid : Prop := flowBoundsRow.holds Try.pinned (OpenSpec.ofChange flowBoundsSpec)

/-- ITS FALSE NEIGHBOUR: 'it returns false'. Refute it at one input. -/
def flowBoundsWrong : ChangeSpec := { name := "flowBounds", fn := fun _ => fun
  | [d] => { results := [.lit (.bool false)], args := [d] }
  | _ => none }
def FlowBoundsWrongFalsely : Prop := flowBoundsRow.holds Try.pinned (OpenSpec.ofChange flowBoundsWrong)

/-- 'garmentlaw49.FlowSimulates': WHATEVER THE INPUT: true; the input reads as it did. -/
def flowSimulatesSpec : ChangeSpec := { name := "flowSimulates", fn := fun _ => fun
  | [d] => { results := [.lit (.bool true)], args := [d] }
  | _ => none }
def flowSimulatesRow : OpenClaim := { program := "ytelgkangojmhdaa", sum := "2aa2aa4de97777a6194971c7a98f453da4536fdf71d71e5090092e9789e8e44f", func := "garment/garmentlaw49.FlowSimulates", spec := "flowSimulates", unfollowed := true, recurses := true, apart := false }
def FlowSimulatesSaid : Prop := flowSimulatesRow.holds Try.pinned (OpenSpec.ofChange flowSimulatesSpec)

/-- ITS FALSE NEIGHBOUR: 'it returns false'. Refute it at one input. -/
def flowSimulatesWrong : ChangeSpec := { name := "flowSimulates", fn := fun _ => fun
  | [d] => { results := [.lit (.bool false)], args := [d] }
  | _ => none }
def FlowSimulatesWrongFalsely : Prop := flowSimulatesRow.holds Try.pinned (OpenSpec.ofChange flowSimulatesWrong)

/-- 'garmentlaw49.FlowChecks': WHATEVER THE INPUT: true; the input reads as it did. -/
def flowChecksSpec : ChangeSpec := { name := "flowChecks", fn := fun _ => fun
  | [d1, d2] => { results := [.lit (.bool true)], args := [d1, d2] }
  | _ => none }
def flowChecksRow : OpenClaim := { program := "ytelgkangojmhdaa", sum := "2aa2aa4de97777a6194971c7a98f453da4536fdf71d71e5090092e9789e8e44f", func := "garment/garmentlaw49.FlowChecks", spec := "flowChecks", unfollowed := true, recurses := true, apart := false }
def FlowChecksSaid : Prop := flowChecksRow.holds Try.pinned (OpenSpec.ofChange flowChecksSpec)

/-- ITS FALSE NEIGHBOUR: 'it returns false'. Refute it at one input. -/
def flowChecksWrong : ChangeSpec := { name := "flowChecks", fn := fun _ => fun
  | [d1, d2] => { results := [.lit (.bool false)], args := [d1, d2] }
  | _ => none }
def FlowChecksWrongFalsely : Prop := flowChecksRow.holds Try.pinned (OpenSpec.ofChange flowChecksWrong)

/-- 'garmentlaw49.FlowSpans': WHATEVER THE INPUT: true; the input reads as it did. -/
def flowSpansSpec : ChangeSpec := { name := "flowSpans", fn := fun _ => fun
  | [d] => { results := [.lit (.bool true)], args := [d] }
  | _ => none }
def flowSpansRow : OpenClaim := { program := "ytelgkangojmhdaa", sum := "2aa2aa4de97777a6194971c7a98f453da4536fdf71d71e5090092e9789e8e44f", func := "garment/garmentlaw49.FlowSpans", spec := "flowSpans", unfollowed := true, recurses := true, apart := false }
def FlowSpansSaid : Prop := flowSpansRow.holds Try.pinned (OpenSpec.ofChange flowSpansSpec)

/-- ITS FALSE NEIGHBOUR: 'it returns false'. Refute it at one input. -/
def flowSpansWrong : ChangeSpec := { name := "flowSpans", fn := fun _ => fun
  | [d] => { results := [.lit (.bool false)], args := [d] }
  | _ => none }
def FlowSpansWrongFalsely : Prop := flowSpansRow.holds Try.pinned (OpenSpec.ofChange flowSpansWrong)

/-- 'garmentlaw49.FlowOrder': WHATEVER THE INPUT: true; the input reads as it did. -/
def flowOrderSpec : ChangeSpec := { name := "flowOrder", fn := fun _ => fun
  | [d] => { results := [.lit (.bool true)], args := [d] }
  | _ => none }
def flowOrderRow : OpenClaim := { program := "ytelgkangojmhdaa", sum := "2aa2aa4de97777a6194971c7a98f453da4536fdf71d71e5090092e9789e8e44f", func := "garment/garmentlaw49.FlowOrder", spec := "flowOrder", unfollowed := true, recurses := true, apart := false }
def FlowOrderSaid : Prop := flowOrderRow.holds Try.pinned (OpenSpec.ofChange flowOrderSpec)

/-- ITS FALSE NEIGHBOUR: 'it returns false'. Refute it at one input. -/
def flowOrderWrong : ChangeSpec := { name := "flowOrder", fn := fun _ => fun
  | [d] => { results := [.lit (.bool false)], args := [d] }
  | _ => none }
def FlowOrderWrongFalsely : Prop := flowOrderRow.holds Try.pinned (OpenSpec.ofChange flowOrderWrong)

/-- 'garmentlaw49.FlowWaits': WHATEVER THE INPUT: true; the input reads as it did. -/
def flowWaitsSpec : ChangeSpec := { name := "flowWaits", fn := fun _ => fun
  | [d] => { results := [.lit (.bool true)], args := [d] }
  | _ => none }
def flowWaitsRow : OpenClaim := { program := "ytelgkangojmhdaa", sum := "2aa2aa4de97777a6194971c7a98f453da4536fdf71d71e5090092e9789e8e44f", func := "garment/garmentlaw49.FlowWaits", spec := "flowWaits", unfollowed := true, recurses := true, apart := false }
def FlowWaitsSaid : Prop := flowWaitsRow.holds Try.pinned (OpenSpec.ofChange flowWaitsSpec)

/-- ITS FALSE NEIGHBOUR: 'it returns false'. Refute it at one input. -/
def flowWaitsWrong : ChangeSpec := { name := "flowWaits", fn := fun _ => fun
  | [d] => { results := [.lit (.bool false)], args := [d] }
  | _ => none }
def FlowWaitsWrongFalsely : Prop := flowWaitsRow.holds Try.pinned (OpenSpec.ofChange flowWaitsWrong)

/-- 'garmentlaw49.FlowSingle': WHATEVER THE INPUT: true; the input reads as it did. -/
def flowSingleSpec : ChangeSpec := { name := "flowSingle", fn := fun _ => fun
  | [d] => { results := [.lit (.bool true)], args := [d] }
  | _ => none }
def flowSingleRow : OpenClaim := { program := "ytelgkangojmhdaa", sum := "2aa2aa4de97777a6194971c7a98f453da4536fdf71d71e5090092e9789e8e44f", func := "garment/garmentlaw49.FlowSingle", spec := "flowSingle", unfollowed := true, recurses := true, apart := false }
def FlowSingleSaid : Prop := flowSingleRow.holds Try.pinned (OpenSpec.ofChange flowSingleSpec)

/-- ITS FALSE NEIGHBOUR: 'it returns false'. Refute it at one input. -/
def flowSingleWrong : ChangeSpec := { name := "flowSingle", fn := fun _ => fun
  | [d] => { results := [.lit (.bool false)], args := [d] }
  | _ => none }
def FlowSingleWrongFalsely : Prop := flowSingleRow.holds Try.pinned (OpenSpec.ofChange flowSingleWrong)

/-- 'garmentlaw49.FlowTickets': WHATEVER THE INPUT: true; the input reads as it did. -/
def flowTicketsSpec : ChangeSpec := { name := "flowTickets", fn := fun _ => fun
  | [d1, d2] => { results := [.lit (.bool true)], args := [d1, d2] }
  | _ => none }
def flowTicketsRow : OpenClaim := { program := "ytelgkangojmhdaa", sum := "2aa2aa4de97777a6194971c7a98f453da4536fdf71d71e5090092e9789e8e44f", func := "garment/garmentlaw49.FlowTickets", spec := "flowTickets", unfollowed := true, recurses := true, apart := false }
def FlowTicketsSaid : Prop := flowTicketsRow.holds Try.pinned (OpenSpec.ofChange flowTicketsSpec)

/-- ITS FALSE NEIGHBOUR: 'it returns false'. Refute it at one input. -/
def flowTicketsWrong : ChangeSpec := { name := "flowTickets", fn := fun _ => fun
  | [d1, d2] => { results := [.lit (.bool false)], args := [d1, d2] }
  | _ => none }
def FlowTicketsWrongFalsely : Prop := flowTicketsRow.holds Try.pinned (OpenSpec.ofChange flowTicketsWrong)

/- THE SECOND FORM. 'bulk': how many values and letters a reading holds, each counted each time it is reached (what is shared counts as often as it is met; a slice's spare places count too). A statement '..UptoSaid' is the law's where the arguments, and the package variables that the reading takes, are together of bulk at most 1048576: NARROWER than '..Said'. Prove '..Said' where nothing that the law and all that it calls make is longer than what came in: it says more and counts as full. Else prove '..UptoSaid'. A law counts once. -/
mutual
def uptoBulk {H : Type} : DataW H → Nat
  | .lit (.string bytes) => bytes.length + 1
  | .lit _ => 1
  | .nil => 1
  | .ptr d => uptoBulk d + 1
  | .slice elems spare => uptoBulkAll elems + uptoBulkAll spare + 1
  | .agg parts => uptoBulkAll parts + 1
  | .iface _ d => uptoBulk d + 1
  | .map entries => uptoBulkEntries entries + 1
  | .held _ => 1
def uptoBulkAll {H : Type} : List (DataW H) → Nat
  | [] => 0
  | d :: r => uptoBulk d + uptoBulkAll r
def uptoBulkEntries {H : Type} : List (Lit × DataW H) → Nat
  | [] => 0
  | x :: r => uptoBulkEntry x + uptoBulkEntries r
def uptoBulkEntry {H : Type} : Lit × DataW H → Nat
  | (.string bytes, d) => bytes.length + uptoBulk d + 1
  | (_, d) => uptoBulk d + 1
 end
def uptoSmall : (H : Type) → List (DataW H) → Bool := fun _ ds => decide (uptoBulkAll ds ≤ 1048576)
def OpenSpec.upto (s : _root_.Go.ChangeSpec) : _root_.Go.OpenSpec := { _root_.Go.OpenSpec.ofChange s with cond := some uptoSmall }

/-- 'garmentlaw49.FlowBegins', WHERE WHAT IT READS IS OF BULK AT MOST 1048576: true; the input reads as it did. -/
def flowBeginsUptoRow : OpenClaim := { program := "ytelgkangojmhdaa", sum := "2aa2aa4de97777a6194971c7a98f453da4536fdf71d71e5090092e9789e8e44f", func := "garment/garmentlaw49.FlowBegins", spec := "flowBegins", unfollowed := true, recurses := true, apart := false, narrowed := true }
def FlowBeginsUptoSaid : Prop := flowBeginsUptoRow.holds Try.pinned (OpenSpec.upto flowBeginsSpec)

/-- 'garmentlaw49.FlowBounds', WHERE WHAT IT READS IS OF BULK AT MOST 1048576: true; the input reads as it did. -/
def flowBoundsUptoRow : OpenClaim := { program := "ytelgkangojmhdaa", sum := "2aa2aa4de97777a6194971c7a98f453da4536fdf71d71e5090092e9789e8e44f", func := "garment/garmentlaw49.FlowBounds", spec := "flowBounds", unfollowed := true, recurses := true, apart := false, narrowed := true }
def FlowBoundsUptoSaid : Prop := flowBoundsUptoRow.holds Try.pinned (OpenSpec.upto flowBoundsSpec)

/-- 'garmentlaw49.FlowSimulates', WHERE WHAT IT READS IS OF BULK AT MOST 1048576: true; the input reads as it did. -/
def flowSimulatesUptoRow : OpenClaim := { program := "ytelgkangojmhdaa", sum := "2aa2aa4de97777a6194971c7a98f453da4536fdf71d71e5090092e9789e8e44f", func := "garment/garmentlaw49.FlowSimulates", spec := "flowSimulates", unfollowed := true, recurses := true, apart := false, narrowed := true }
def FlowSimulatesUptoSaid : Prop := flowSimulatesUptoRow.holds Try.pinned (OpenSpec.upto flowSimulatesSpec)

/-- 'garmentlaw49.FlowChecks', WHERE WHAT IT READS IS OF BULK AT MOST 1048576: true; the input reads as it did. -/
def flowChecksUptoRow : OpenClaim := { program := "ytelgkangojmhdaa", sum := "2aa2aa4de97777a6194971c7a98f453da4536fdf71d71e5090092e9789e8e44f", func := "garment/garmentlaw49.FlowChecks", spec := "flowChecks", unfollowed := true, recurses := true, apart := false, narrowed := true }
def FlowChecksUptoSaid : Prop := flowChecksUptoRow.holds Try.pinned (OpenSpec.upto flowChecksSpec)

/-- 'garmentlaw49.FlowSpans', WHERE WHAT IT READS IS OF BULK AT MOST 1048576: true; the input reads as it did. -/
def flowSpansUptoRow : OpenClaim := { program := "ytelgkangojmhdaa", sum := "2aa2aa4de97777a6194971c7a98f453da4536fdf71d71e5090092e9789e8e44f", func := "garment/garmentlaw49.FlowSpans", spec := "flowSpans", unfollowed := true, recurses := true, apart := false, narrowed := true }
def FlowSpansUptoSaid : Prop := flowSpansUptoRow.holds Try.pinned (OpenSpec.upto flowSpansSpec)

/-- 'garmentlaw49.FlowOrder', WHERE WHAT IT READS IS OF BULK AT MOST 1048576: true; the input reads as it did. -/
def flowOrderUptoRow : OpenClaim := { program := "ytelgkangojmhdaa", sum := "2aa2aa4de97777a6194971c7a98f453da4536fdf71d71e5090092e9789e8e44f", func := "garment/garmentlaw49.FlowOrder", spec := "flowOrder", unfollowed := true, recurses := true, apart := false, narrowed := true }
def FlowOrderUptoSaid : Prop := flowOrderUptoRow.holds Try.pinned (OpenSpec.upto flowOrderSpec)

/-- 'garmentlaw49.FlowWaits', WHERE WHAT IT READS IS OF BULK AT MOST 1048576: true; the input reads as it did. -/
def flowWaitsUptoRow : OpenClaim := { program := "ytelgkangojmhdaa", sum := "2aa2aa4de97777a6194971c7a98f453da4536fdf71d71e5090092e9789e8e44f", func := "garment/garmentlaw49.FlowWaits", spec := "flowWaits", unfollowed := true, recurses := true, apart := false, narrowed := true }
def FlowWaitsUptoSaid : Prop := flowWaitsUptoRow.holds Try.pinned (OpenSpec.upto flowWaitsSpec)

/-- 'garmentlaw49.FlowSingle', WHERE WHAT IT READS IS OF BULK AT MOST 1048576: true; the input reads as it did. -/
def flowSingleUptoRow : OpenClaim := { program := "ytelgkangojmhdaa", sum := "2aa2aa4de97777a6194971c7a98f453da4536fdf71d71e5090092e9789e8e44f", func := "garment/garmentlaw49.FlowSingle", spec := "flowSingle", unfollowed := true, recurses := true, apart := false, narrowed := true }
def FlowSingleUptoSaid : Prop := flowSingleUptoRow.holds Try.pinned (OpenSpec.upto flowSingleSpec)

/-- 'garmentlaw49.FlowTickets', WHERE WHAT IT READS IS OF BULK AT MOST 1048576: true; the input reads as it did. -/
def flowTicketsUptoRow : OpenClaim := { program := "ytelgkangojmhdaa", sum := "2aa2aa4de97777a6194971c7a98f453da4536fdf71d71e5090092e9789e8e44f", func := "garment/garmentlaw49.FlowTickets", spec := "flowTickets", unfollowed := true, recurses := true, apart := false, narrowed := true }
def FlowTicketsUptoSaid : Prop := flowTicketsUptoRow.holds Try.pinned (OpenSpec.upto flowTicketsSpec)

end Rows
end Go.Proofs.Ytelgkangojmhdaa
