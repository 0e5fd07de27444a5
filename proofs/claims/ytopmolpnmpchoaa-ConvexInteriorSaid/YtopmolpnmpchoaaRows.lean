/-
  No cell of these rows narrows 'for every input' (looked for: loops, veiled, ifaces, maps, wideKeys, modest, calm, conditions, laid).
  DERIVED. THE GIVEN ROWS OF THIS SEAT. 8 by the template 'for every input the law returns true; each argument reads behind the call as it read before'; 0 by the template 'total and deterministic' (their statements: YtopmolpnmpchoaaTotals.lean).
  GIVEN WITH THE SEED: the statements are not yours to turn. If you find one false, say at which input.
  Laid BY PROGRAM, IN A SANDBOX (cutbox-rows.mjs): the forced cells as the released guide's own fill.sh prints them over the translation 7053218cd8a160b2… (all of the seat's roots in one cut). By AI agents, Wed Nov 11 2026. No macro, syntax, notation, axiom, sorry.
-/
import Derived.Test.YtopmolpnmpchoaaChecked
import GoSem.Claim
import GoSem.ClaimJoined
import GoSem.ClaimMapViews
import Derived.JoinedTies
import Derived.KernelRfl
namespace Go.Proofs.Ytopmolpnmpchoaa
/- THE CELL 'sum', in the pinned program and in every row, IS THE sha256 OF THE DUMP (.gsa) THAT YtopmolpnmpchoaaProg.lean LOADS. Nothing in Lean hashes anything: it is a label: what it is worth is what the hold of that sum in a sandbox is worth. -/
noncomputable def Try.pinned : Pinned := { name := "ytopmolpnmpchoaa", sum := "7053218cd8a160b228c4fc8127afa7d3884b8a05ca8f4c4df09da8a083f7aab2", checked := Try.checked }
namespace Rows
def none {H : Type} : Left H := { results := [], args := [] }

/-- 'garmentlaw14.ConvexHulls': WHATEVER THE INPUT: true; the input reads as it did. -/
def convexHullsSpec : ChangeSpec := { name := "convexHulls", fn := fun _ => fun
  | [d] => { results := [.lit (.bool true)], args := [d] }
  | _ => none }
def convexHullsRow : OpenClaim := { program := "ytopmolpnmpchoaa", sum := "7053218cd8a160b228c4fc8127afa7d3884b8a05ca8f4c4df09da8a083f7aab2", func := "garment/garmentlaw14.ConvexHulls", spec := "convexHulls", unfollowed := true, recurses := true, apart := false }
def ConvexHullsSaid : Prop := convexHullsRow.holds Try.pinned (OpenSpec.ofChange convexHullsSpec)

/-- ITS FALSE NEIGHBOUR: 'it returns false'. Refute it at one input. -/
def convexHullsWrong : ChangeSpec := { name := "convexHulls", fn := fun _ => fun
  | [d] => { results := [.lit (.bool false)], args := [d] }
  | _ => none }
def ConvexHullsWrongFalsely : Prop := convexHullsRow.holds Try.pinned (OpenSpec.ofChange convexHullsWrong)

/-- 'garmentlaw14.ConvexSums': WHATEVER THE INPUT: true; the input reads as it did. -/
def convexSumsSpec : ChangeSpec := { name := "convexSums", fn := fun _ => fun
  | [d1, d2] => { results := [.lit (.bool true)], args := [d1, d2] }
  | _ => none }
def convexSumsRow : OpenClaim := { program := "ytopmolpnmpchoaa", sum := "7053218cd8a160b228c4fc8127afa7d3884b8a05ca8f4c4df09da8a083f7aab2", func := "garment/garmentlaw14.ConvexSums", spec := "convexSums", unfollowed := true, recurses := true, apart := false }
def ConvexSumsSaid : Prop := convexSumsRow.holds Try.pinned (OpenSpec.ofChange convexSumsSpec)

/-- ITS FALSE NEIGHBOUR: 'it returns false'. Refute it at one input. -/
def convexSumsWrong : ChangeSpec := { name := "convexSums", fn := fun _ => fun
  | [d1, d2] => { results := [.lit (.bool false)], args := [d1, d2] }
  | _ => none }
def ConvexSumsWrongFalsely : Prop := convexSumsRow.holds Try.pinned (OpenSpec.ofChange convexSumsWrong)

/-- 'garmentlaw14.ConvexInsides': WHATEVER THE INPUT: true; the input reads as it did. -/
def convexInsidesSpec : ChangeSpec := { name := "convexInsides", fn := fun _ => fun
  | [d1, d2] => { results := [.lit (.bool true)], args := [d1, d2] }
  | _ => none }
def convexInsidesRow : OpenClaim := { program := "ytopmolpnmpchoaa", sum := "7053218cd8a160b228c4fc8127afa7d3884b8a05ca8f4c4df09da8a083f7aab2", func := "garment/garmentlaw14.ConvexInsides", spec := "convexInsides", unfollowed := true, recurses := true, apart := false }
def ConvexInsidesSaid : Prop := convexInsidesRow.holds Try.pinned (OpenSpec.ofChange convexInsidesSpec)

/-- ITS FALSE NEIGHBOUR: 'it returns false'. Refute it at one input. -/
def convexInsidesWrong : ChangeSpec := { name := "convexInsides", fn := fun _ => fun
  | [d1, d2] => { results := [.lit (.bool false)], args := [d1, d2] }
  | _ => none }
def ConvexInsidesWrongFalsely : Prop := convexInsidesRow.holds Try.pinned (OpenSpec.ofChange convexInsidesWrong)

/-- 'garmentlaw14.ConvexSupport': WHATEVER THE INPUT: true; the input reads as it did. -/
def convexSupportSpec : ChangeSpec := { name := "convexSupport", fn := fun _ => fun
  | [d1, d2, d3] => { results := [.lit (.bool true)], args := [d1, d2, d3] }
  | _ => none }
def convexSupportRow : OpenClaim := { program := "ytopmolpnmpchoaa", sum := "7053218cd8a160b228c4fc8127afa7d3884b8a05ca8f4c4df09da8a083f7aab2", func := "garment/garmentlaw14.ConvexSupport", spec := "convexSupport", unfollowed := true, recurses := true, apart := false }
def ConvexSupportSaid : Prop := convexSupportRow.holds Try.pinned (OpenSpec.ofChange convexSupportSpec)

/-- ITS FALSE NEIGHBOUR: 'it returns false'. Refute it at one input. -/
def convexSupportWrong : ChangeSpec := { name := "convexSupport", fn := fun _ => fun
  | [d1, d2, d3] => { results := [.lit (.bool false)], args := [d1, d2, d3] }
  | _ => none }
def ConvexSupportWrongFalsely : Prop := convexSupportRow.holds Try.pinned (OpenSpec.ofChange convexSupportWrong)

/-- 'garmentlaw14.ConvexContains': WHATEVER THE INPUT: true; the input reads as it did. -/
def convexContainsSpec : ChangeSpec := { name := "convexContains", fn := fun _ => fun
  | [d] => { results := [.lit (.bool true)], args := [d] }
  | _ => none }
def convexContainsRow : OpenClaim := { program := "ytopmolpnmpchoaa", sum := "7053218cd8a160b228c4fc8127afa7d3884b8a05ca8f4c4df09da8a083f7aab2", func := "garment/garmentlaw14.ConvexContains", spec := "convexContains", unfollowed := true, recurses := true, apart := false }
def ConvexContainsSaid : Prop := convexContainsRow.holds Try.pinned (OpenSpec.ofChange convexContainsSpec)

/-- ITS FALSE NEIGHBOUR: 'it returns false'. Refute it at one input. -/
def convexContainsWrong : ChangeSpec := { name := "convexContains", fn := fun _ => fun
  | [d] => { results := [.lit (.bool false)], args := [d] }
  | _ => none }
def ConvexContainsWrongFalsely : Prop := convexContainsRow.holds Try.pinned (OpenSpec.ofChange convexContainsWrong)

/-- 'garmentlaw14.ConvexOrder': WHATEVER THE INPUT: true; the input reads as it did. -/
def convexOrderSpec : ChangeSpec := { name := "convexOrder", fn := fun _ => fun
  | [d1, d2] => { results := [.lit (.bool true)], args := [d1, d2] }
  | _ => none }
def convexOrderRow : OpenClaim := { program := "ytopmolpnmpchoaa", sum := "7053218cd8a160b228c4fc8127afa7d3884b8a05ca8f4c4df09da8a083f7aab2", func := "garment/garmentlaw14.ConvexOrder", spec := "convexOrder", unfollowed := true, recurses := true, apart := false }
def ConvexOrderSaid : Prop := convexOrderRow.holds Try.pinned (OpenSpec.ofChange convexOrderSpec)

/-- ITS FALSE NEIGHBOUR: 'it returns false'. Refute it at one input. -/
def convexOrderWrong : ChangeSpec := { name := "convexOrder", fn := fun _ => fun
  | [d1, d2] => { results := [.lit (.bool false)], args := [d1, d2] }
  | _ => none }
def ConvexOrderWrongFalsely : Prop := convexOrderRow.holds Try.pinned (OpenSpec.ofChange convexOrderWrong)

/-- 'garmentlaw14.ConvexSumArea': WHATEVER THE INPUT: true; the input reads as it did. -/
def convexSumAreaSpec : ChangeSpec := { name := "convexSumArea", fn := fun _ => fun
  | [d1, d2] => { results := [.lit (.bool true)], args := [d1, d2] }
  | _ => none }
def convexSumAreaRow : OpenClaim := { program := "ytopmolpnmpchoaa", sum := "7053218cd8a160b228c4fc8127afa7d3884b8a05ca8f4c4df09da8a083f7aab2", func := "garment/garmentlaw14.ConvexSumArea", spec := "convexSumArea", unfollowed := true, recurses := true, apart := false }
def ConvexSumAreaSaid : Prop := convexSumAreaRow.holds Try.pinned (OpenSpec.ofChange convexSumAreaSpec)

/-- ITS FALSE NEIGHBOUR: 'it returns false'. Refute it at one input. -/
def convexSumAreaWrong : ChangeSpec := { name := "convexSumArea", fn := fun _ => fun
  | [d1, d2] => { results := [.lit (.bool false)], args := [d1, d2] }
  | _ => none }
def ConvexSumAreaWrongFalsely : Prop := convexSumAreaRow.holds Try.pinned (OpenSpec.ofChange convexSumAreaWrong)

/-- 'garmentlaw14.ConvexInterior': WHATEVER THE INPUT: true; the input reads as it did. -/
def convexInteriorSpec : ChangeSpec := { name := "convexInterior", fn := fun _ => fun
  | [d1, d2, d3] => { results := [.lit (.bool true)], args := [d1, d2, d3] }
  | _ => none }
def convexInteriorRow : OpenClaim := { program := "ytopmolpnmpchoaa", sum := "7053218cd8a160b228c4fc8127afa7d3884b8a05ca8f4c4df09da8a083f7aab2", func := "garment/garmentlaw14.ConvexInterior", spec := "convexInterior", unfollowed := true, recurses := true, apart := false }
def ConvexInteriorSaid : Prop := convexInteriorRow.holds Try.pinned (OpenSpec.ofChange convexInteriorSpec)

/-- ITS FALSE NEIGHBOUR: 'it returns false'. Refute it at one input. -/
def convexInteriorWrong : ChangeSpec := { name := "convexInterior", fn := fun _ => fun
  | [d1, d2, d3] => { results := [.lit (.bool false)], args := [d1, d2, d3] }
  | _ => none }
def ConvexInteriorWrongFalsely : Prop := convexInteriorRow.holds Try.pinned (OpenSpec.ofChange convexInteriorWrong)

/- THE SECOND FORM. 'bulk': how many values and letters a reading holds, each counted each time it is reached (what is shared counts as often as it is met; a slice's spare places count too). A statement '..UptoSaid' is the law's where the arguments, and the package variables that the reading takes, are together of bulk at most 1048576: NARROWER than '..Said'. Prove '..Said' where nothing that the law and all that it calls make is longer than what came in: it says more and counts as full. Else prove '..UptoSaid'. A law counts once. -/
mutual
def uptoBulk {H : Type} : DataW H → Nat
  | .lit (.string bytes) => bytes.length + 1
  | .lit _ => 1
  | .nil => 1
  | .ptr d => uptoBulk d + 1
  | .slice elems spare => uptoBulkAll elems + uptoBulkAll spare + 1
  | .agg parts => uptoBulkAll parts + 1
  | .iface _ d => uptoBulk d + 1
  | .map entries => uptoBulkEntries entries + 1
  | .held _ => 1
def uptoBulkAll {H : Type} : List (DataW H) → Nat
  | [] => 0
  | d :: r => uptoBulk d + uptoBulkAll r
def uptoBulkEntries {H : Type} : List (Lit × DataW H) → Nat
  | [] => 0
  | x :: r => uptoBulkEntry x + uptoBulkEntries r
def uptoBulkEntry {H : Type} : Lit × DataW H → Nat
  | (.string bytes, d) => bytes.length + uptoBulk d + 1
  | (_, d) => uptoBulk d + 1
 end
def uptoSmall : (H : Type) → List (DataW H) → Bool := fun _ ds => decide (uptoBulkAll ds ≤ 1048576)
def OpenSpec.upto (s : _root_.Go.ChangeSpec) : _root_.Go.OpenSpec := { _root_.Go.OpenSpec.ofChange s with cond := some uptoSmall }

/-- 'garmentlaw14.ConvexHulls', WHERE WHAT IT READS IS OF BULK AT MOST 1048576: true; the input reads as it did. -/
def convexHullsUptoRow : OpenClaim := { program := "ytopmolpnmpchoaa", sum := "7053218cd8a160b228c4fc8127afa7d3884b8a05ca8f4c4df09da8a083f7aab2", func := "garment/garmentlaw14.ConvexHulls", spec := "convexHulls", unfollowed := true, recurses := true, apart := false, narrowed := true }
def ConvexHullsUptoSaid : Prop := convexHullsUptoRow.holds Try.pinned (OpenSpec.upto convexHullsSpec)

/-- 'garmentlaw14.ConvexSums', WHERE WHAT IT READS IS OF BULK AT MOST 1048576: true; the input reads as it did. -/
def convexSumsUptoRow : OpenClaim := { program := "ytopmolpnmpchoaa", sum := "7053218cd8a160b228c4fc8127afa7d3884b8a05ca8f4c4df09da8a083f7aab2", func := "garment/garmentlaw14.ConvexSums", spec := "convexSums", unfollowed := true, recurses := true, apart := false, narrowed := true }
def ConvexSumsUptoSaid : Prop := convexSumsUptoRow.holds Try.pinned (OpenSpec.upto convexSumsSpec)

/-- 'garmentlaw14.ConvexInsides', WHERE WHAT IT READS IS OF BULK AT MOST 1048576: true; the input reads as it did. -/
def convexInsidesUptoRow : OpenClaim := { program := "ytopmolpnmpchoaa", sum := "7053218cd8a160b228c4fc8127afa7d3884b8a05ca8f4c4df09da8a083f7aab2", func := "garment/garmentlaw14.ConvexInsides", spec := "convexInsides", unfollowed := true, recurses := true, apart := false, narrowed := true }
def ConvexInsidesUptoSaid : Prop := convexInsidesUptoRow.holds Try.pinned (OpenSpec.upto convexInsidesSpec)

/-- 'garmentlaw14.ConvexSupport', WHERE WHAT IT READS IS OF BULK AT MOST 1048576: true; the input reads as it did. -/
def convexSupportUptoRow : OpenClaim := { program := "ytopmolpnmpchoaa", sum := "7053218cd8a160b228c4fc8127afa7d3884b8a05ca8f4c4df09da8a083f7aab2", func := "garment/garmentlaw14.ConvexSupport", spec := "convexSupport", unfollowed := true, recurses := true, apart := false, narrowed := true }
def ConvexSupportUptoSaid : Prop := convexSupportUptoRow.holds Try.pinned (OpenSpec.upto convexSupportSpec)

/-- 'garmentlaw14.ConvexContains', WHERE WHAT IT READS IS OF BULK AT MOST 1048576: true; the input reads as it did. -/
def convexContainsUptoRow : OpenClaim := { program := "ytopmolpnmpchoaa", sum := "7053218cd8a160b228c4fc8127afa7d3884b8a05ca8f4c4df09da8a083f7aab2", func := "garment/garmentlaw14.ConvexContains", spec := "convexContains", unfollowed := true, recurses := true, apart := false, narrowed := true }
def ConvexContainsUptoSaid : Prop := convexContainsUptoRow.holds Try.pinned (OpenSpec.upto convexContainsSpec)

/-- 'garmentlaw14.ConvexOrder', WHERE WHAT IT READS IS OF BULK AT MOST 1048576: true; the input reads as it did. -/
def convexOrderUptoRow : OpenClaim := { program := "ytopmolpnmpchoaa", sum := "7053218cd8a160b228c4fc8127afa7d3884b8a05ca8f4c4df09da8a083f7aab2", func := "garment/garmentlaw14.ConvexOrder", spec := "convexOrder", unfollowed := true, recurses := true, apart := false, narrowed := true }
def ConvexOrderUptoSaid : Prop := convexOrderUptoRow.holds Try.pinned (OpenSpec.upto convexOrderSpec)

/-- 'garmentlaw14.ConvexSumArea', WHERE WHAT IT READS IS OF BULK AT MOST 1048576: true; the input reads as it did. -/
def convexSumAreaUptoRow : OpenClaim := { program := "ytopmolpnmpchoaa", sum := "7053218cd8a160b228c4fc8127afa7d3884b8a05ca8f4c4df09da8a083f7aab2", func := "garment/garmentlaw14.ConvexSumArea", spec := "convexSumArea", unfollowed := true, recurses := true, apart := false, narrowed := true }
def ConvexSumAreaUptoSaid : Prop := convexSumAreaUptoRow.holds Try.pinned (OpenSpec.upto convexSumAreaSpec)

/-- 'garmentlaw14.ConvexInterior', WHERE WHAT IT READS IS OF BULK AT MOST 1048576: true; the input reads as it did. -/
def convexInteriorUptoRow : OpenClaim := { program := "ytopmolpnmpchoaa", sum := "7053218cd8a160b228c4fc8127afa7d3884b8a05ca8f4c4df09da8a083f7aab2", func := "garment/garmentlaw14.ConvexInterior", spec := "convexInterior", unfollowed := true, recurses := true, apart := false, narrowed := true }
def ConvexInteriorUptoSaid : Prop := convexInteriorUptoRow.holds Try.pinned (OpenSpec.upto convexInteriorSpec)

end Rows
end Go.Proofs.Ytopmolpnmpchoaa
