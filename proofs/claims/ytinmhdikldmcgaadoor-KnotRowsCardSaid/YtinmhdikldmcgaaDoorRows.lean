/-
  NARROWER THAN 'FOR EVERY INPUT', by the rows' own cells (each row's printed sentence says how): KnotSums: laid · KnotApart: laid · KnotRows: laid · KnotReads: laid · KnotTies: laid · KnotBursts: laid · KnotLimits: laid · KnotCuts: laid.
  DERIVED. THE GIVEN ROWS OF THIS SEAT. 8 by the template 'for every input the law returns true; each argument reads behind the call as it read before'; 0 by the template 'total and deterministic' (their statements: YtinmhdikldmcgaaDoorTotals.lean).
  GIVEN WITH THE SEED: the statements are not yours to turn. If you find one false, say at which input.
  Laid BY PROGRAM, IN A SANDBOX (cutbox-rows.mjs): the forced cells as the released guide's own fill.sh prints them over the translation 8a361b0e01c9d4b8… (all of the seat's roots in one cut). By AI agents, Wed Nov 11 2026. No macro, syntax, notation, axiom, sorry.
-/
import Derived.Test.YtinmhdikldmcgaaDoorChecked
import GoSem.Claim
import GoSem.ClaimJoined
import GoSem.ClaimMapViews
import Derived.JoinedTies
import Derived.KernelRfl
namespace Go.Proofs.YtinmhdikldmcgaaDoor
/- THE CELL 'sum', in the pinned program and in every row, IS THE sha256 OF THE DUMP (.gsa) THAT YtinmhdikldmcgaaDoorProg.lean LOADS. Nothing in Lean hashes anything: it is a label: what it is worth is what the hold of that sum in a sandbox is worth. -/
noncomputable def Tryd.pinned : Pinned := { name := "ytinmhdikldmcgaadoor", sum := "8a361b0e01c9d4b8e6892514184df76a56a654bcb5ba94445d75f9b97e8ffd9e", checked := Tryd.checked }
namespace Rows
def none {H : Type} : Left H := { results := [], args := [] }

/- WHAT THE LISTED PACKAGE-LEVEL VARIABLES READ AS WHEN THE CALL BEGINS. Each datum BY PROGRAM (the guide's laid-datum.mjs) off the statement by which the dump's own 'gosem.cut.vars' lays the variable. In a bare row this is a premise. The card (YtinmhdikldmcgaaDoorCards.lean) ties it to the program's text. -/
def laid_quadrille_knot_quarter {H : Type} : DataW H := .agg [.lit (.int .u32 0), .lit (.int .u32 274646895), .lit (.int .u32 549293790), .lit (.int .u32 820201905), .lit (.int .u32 1098587580), .lit (.int .u32 1361435347), .lit (.int .u32 1640403810), .lit (.int .u32 1905808397), .lit (.int .u32 2197175160), .lit (.int .u32 2460548119), .lit (.int .u32 2722870694), .lit (.int .u32 2987750089), .lit (.int .u32 3280807620), .lit (.int .u32 3553878443), .lit (.int .u32 3811616794), .lit (.int .u32 4084100981)]

/-- 'quadrillelaw02.KnotSums': WHATEVER THE INPUT: true; the input reads as it did. -/
def knotSumsSpec : ChangeSpec := { name := "knotSums", fn := fun _ => fun
  | [d] => { results := [.lit (.bool true)], args := [d] }
  | _ => none }
def knotSumsRow : OpenClaim := { program := "ytinmhdikldmcgaadoor", sum := "8a361b0e01c9d4b8e6892514184df76a56a654bcb5ba94445d75f9b97e8ffd9e", func := "quadrille/quadrillelaw02.KnotSums", spec := "knotSums", named := ["quadrille/knot.quarter"], apart := false, laid := [("quadrille/knot.quarter", laid_quadrille_knot_quarter)] }
def KnotSumsSaid : Prop := knotSumsRow.holds Tryd.pinned (OpenSpec.ofChange knotSumsSpec)

/-- ITS FALSE NEIGHBOUR: 'it returns false'. Refute it at one input. -/
def knotSumsWrong : ChangeSpec := { name := "knotSums", fn := fun _ => fun
  | [d] => { results := [.lit (.bool false)], args := [d] }
  | _ => none }
def KnotSumsWrongFalsely : Prop := knotSumsRow.holds Tryd.pinned (OpenSpec.ofChange knotSumsWrong)

/-- 'quadrillelaw02.KnotApart': WHATEVER THE INPUT: true; the input reads as it did. -/
def knotApartSpec : ChangeSpec := { name := "knotApart", fn := fun _ => fun
  | [d1, d2, d3] => { results := [.lit (.bool true)], args := [d1, d2, d3] }
  | _ => none }
def knotApartRow : OpenClaim := { program := "ytinmhdikldmcgaadoor", sum := "8a361b0e01c9d4b8e6892514184df76a56a654bcb5ba94445d75f9b97e8ffd9e", func := "quadrille/quadrillelaw02.KnotApart", spec := "knotApart", named := ["quadrille/knot.quarter"], apart := false, laid := [("quadrille/knot.quarter", laid_quadrille_knot_quarter)] }
def KnotApartSaid : Prop := knotApartRow.holds Tryd.pinned (OpenSpec.ofChange knotApartSpec)

/-- ITS FALSE NEIGHBOUR: 'it returns false'. Refute it at one input. -/
def knotApartWrong : ChangeSpec := { name := "knotApart", fn := fun _ => fun
  | [d1, d2, d3] => { results := [.lit (.bool false)], args := [d1, d2, d3] }
  | _ => none }
def KnotApartWrongFalsely : Prop := knotApartRow.holds Tryd.pinned (OpenSpec.ofChange knotApartWrong)

/-- 'quadrillelaw02.KnotRows': WHATEVER THE INPUT: true; the input reads as it did. -/
def knotRowsSpec : ChangeSpec := { name := "knotRows", fn := fun _ => fun
  | [d] => { results := [.lit (.bool true)], args := [d] }
  | _ => none }
def knotRowsRow : OpenClaim := { program := "ytinmhdikldmcgaadoor", sum := "8a361b0e01c9d4b8e6892514184df76a56a654bcb5ba94445d75f9b97e8ffd9e", func := "quadrille/quadrillelaw02.KnotRows", spec := "knotRows", named := ["quadrille/knot.quarter"], apart := false, laid := [("quadrille/knot.quarter", laid_quadrille_knot_quarter)] }
def KnotRowsSaid : Prop := knotRowsRow.holds Tryd.pinned (OpenSpec.ofChange knotRowsSpec)

/-- ITS FALSE NEIGHBOUR: 'it returns false'. Refute it at one input. -/
def knotRowsWrong : ChangeSpec := { name := "knotRows", fn := fun _ => fun
  | [d] => { results := [.lit (.bool false)], args := [d] }
  | _ => none }
def KnotRowsWrongFalsely : Prop := knotRowsRow.holds Tryd.pinned (OpenSpec.ofChange knotRowsWrong)

/-- 'quadrillelaw02.KnotReads': WHATEVER THE INPUT: true; the input reads as it did. -/
def knotReadsSpec : ChangeSpec := { name := "knotReads", fn := fun _ => fun
  | [d] => { results := [.lit (.bool true)], args := [d] }
  | _ => none }
def knotReadsRow : OpenClaim := { program := "ytinmhdikldmcgaadoor", sum := "8a361b0e01c9d4b8e6892514184df76a56a654bcb5ba94445d75f9b97e8ffd9e", func := "quadrille/quadrillelaw02.KnotReads", spec := "knotReads", named := ["quadrille/knot.quarter"], apart := false, laid := [("quadrille/knot.quarter", laid_quadrille_knot_quarter)] }
def KnotReadsSaid : Prop := knotReadsRow.holds Tryd.pinned (OpenSpec.ofChange knotReadsSpec)

/-- ITS FALSE NEIGHBOUR: 'it returns false'. Refute it at one input. -/
def knotReadsWrong : ChangeSpec := { name := "knotReads", fn := fun _ => fun
  | [d] => { results := [.lit (.bool false)], args := [d] }
  | _ => none }
def KnotReadsWrongFalsely : Prop := knotReadsRow.holds Tryd.pinned (OpenSpec.ofChange knotReadsWrong)

/-- 'quadrillelaw02.KnotTies': WHATEVER THE INPUT: true; the input reads as it did. -/
def knotTiesSpec : ChangeSpec := { name := "knotTies", fn := fun _ => fun
  | [d] => { results := [.lit (.bool true)], args := [d] }
  | _ => none }
def knotTiesRow : OpenClaim := { program := "ytinmhdikldmcgaadoor", sum := "8a361b0e01c9d4b8e6892514184df76a56a654bcb5ba94445d75f9b97e8ffd9e", func := "quadrille/quadrillelaw02.KnotTies", spec := "knotTies", named := ["quadrille/knot.quarter"], apart := false, laid := [("quadrille/knot.quarter", laid_quadrille_knot_quarter)] }
def KnotTiesSaid : Prop := knotTiesRow.holds Tryd.pinned (OpenSpec.ofChange knotTiesSpec)

/-- ITS FALSE NEIGHBOUR: 'it returns false'. Refute it at one input. -/
def knotTiesWrong : ChangeSpec := { name := "knotTies", fn := fun _ => fun
  | [d] => { results := [.lit (.bool false)], args := [d] }
  | _ => none }
def KnotTiesWrongFalsely : Prop := knotTiesRow.holds Tryd.pinned (OpenSpec.ofChange knotTiesWrong)

/-- 'quadrillelaw02.KnotBursts': WHATEVER THE INPUT: true; the input reads as it did. -/
def knotBurstsSpec : ChangeSpec := { name := "knotBursts", fn := fun _ => fun
  | [d1, d2, d3] => { results := [.lit (.bool true)], args := [d1, d2, d3] }
  | _ => none }
def knotBurstsRow : OpenClaim := { program := "ytinmhdikldmcgaadoor", sum := "8a361b0e01c9d4b8e6892514184df76a56a654bcb5ba94445d75f9b97e8ffd9e", func := "quadrille/quadrillelaw02.KnotBursts", spec := "knotBursts", named := ["quadrille/knot.quarter"], apart := false, laid := [("quadrille/knot.quarter", laid_quadrille_knot_quarter)] }
def KnotBurstsSaid : Prop := knotBurstsRow.holds Tryd.pinned (OpenSpec.ofChange knotBurstsSpec)

/-- ITS FALSE NEIGHBOUR: 'it returns false'. Refute it at one input. -/
def knotBurstsWrong : ChangeSpec := { name := "knotBursts", fn := fun _ => fun
  | [d1, d2, d3] => { results := [.lit (.bool false)], args := [d1, d2, d3] }
  | _ => none }
def KnotBurstsWrongFalsely : Prop := knotBurstsRow.holds Tryd.pinned (OpenSpec.ofChange knotBurstsWrong)

/-- 'quadrillelaw02.KnotLimits': WHATEVER THE INPUT: true; the input reads as it did. -/
def knotLimitsSpec : ChangeSpec := { name := "knotLimits", fn := fun _ => fun
  | [d1, d2] => { results := [.lit (.bool true)], args := [d1, d2] }
  | _ => none }
def knotLimitsRow : OpenClaim := { program := "ytinmhdikldmcgaadoor", sum := "8a361b0e01c9d4b8e6892514184df76a56a654bcb5ba94445d75f9b97e8ffd9e", func := "quadrille/quadrillelaw02.KnotLimits", spec := "knotLimits", named := ["quadrille/knot.quarter"], apart := false, laid := [("quadrille/knot.quarter", laid_quadrille_knot_quarter)] }
def KnotLimitsSaid : Prop := knotLimitsRow.holds Tryd.pinned (OpenSpec.ofChange knotLimitsSpec)

/-- ITS FALSE NEIGHBOUR: 'it returns false'. Refute it at one input. -/
def knotLimitsWrong : ChangeSpec := { name := "knotLimits", fn := fun _ => fun
  | [d1, d2] => { results := [.lit (.bool false)], args := [d1, d2] }
  | _ => none }
def KnotLimitsWrongFalsely : Prop := knotLimitsRow.holds Tryd.pinned (OpenSpec.ofChange knotLimitsWrong)

/-- 'quadrillelaw02.KnotCuts': WHATEVER THE INPUT: true; the input reads as it did. -/
def knotCutsSpec : ChangeSpec := { name := "knotCuts", fn := fun _ => fun
  | [d1, d2] => { results := [.lit (.bool true)], args := [d1, d2] }
  | _ => none }
def knotCutsRow : OpenClaim := { program := "ytinmhdikldmcgaadoor", sum := "8a361b0e01c9d4b8e6892514184df76a56a654bcb5ba94445d75f9b97e8ffd9e", func := "quadrille/quadrillelaw02.KnotCuts", spec := "knotCuts", named := ["quadrille/knot.quarter"], apart := false, laid := [("quadrille/knot.quarter", laid_quadrille_knot_quarter)] }
def KnotCutsSaid : Prop := knotCutsRow.holds Tryd.pinned (OpenSpec.ofChange knotCutsSpec)

/-- ITS FALSE NEIGHBOUR: 'it returns false'. Refute it at one input. -/
def knotCutsWrong : ChangeSpec := { name := "knotCuts", fn := fun _ => fun
  | [d1, d2] => { results := [.lit (.bool false)], args := [d1, d2] }
  | _ => none }
def KnotCutsWrongFalsely : Prop := knotCutsRow.holds Tryd.pinned (OpenSpec.ofChange knotCutsWrong)

/- THE SECOND FORM. 'bulk': how many values and letters a reading holds, each counted each time it is reached (what is shared counts as often as it is met; a slice's spare places count too). A statement '..UptoSaid' is the law's where the arguments, and the package variables that the reading takes, are together of bulk at most 1048576: NARROWER than '..Said'. Prove '..Said' where nothing that the law and all that it calls make is longer than what came in: it says more and counts as full. Else prove '..UptoSaid'. A law counts once. -/
mutual
def uptoBulk {H : Type} : DataW H → Nat
  | .lit (.string bytes) => bytes.length + 1
  | .lit _ => 1
  | .nil => 1
  | .ptr d => uptoBulk d + 1
  | .slice elems spare => uptoBulkAll elems + uptoBulkAll spare + 1
  | .agg parts => uptoBulkAll parts + 1
  | .iface _ d => uptoBulk d + 1
  | .map entries => uptoBulkEntries entries + 1
  | .held _ => 1
def uptoBulkAll {H : Type} : List (DataW H) → Nat
  | [] => 0
  | d :: r => uptoBulk d + uptoBulkAll r
def uptoBulkEntries {H : Type} : List (Lit × DataW H) → Nat
  | [] => 0
  | x :: r => uptoBulkEntry x + uptoBulkEntries r
def uptoBulkEntry {H : Type} : Lit × DataW H → Nat
  | (.string bytes, d) => bytes.length + uptoBulk d + 1
  | (_, d) => uptoBulk d + 1
 end
def uptoSmall : (H : Type) → List (DataW H) → Bool := fun _ ds => decide (uptoBulkAll ds ≤ 1048576)
def OpenSpec.upto (s : _root_.Go.ChangeSpec) : _root_.Go.OpenSpec := { _root_.Go.OpenSpec.ofChange s with cond := some uptoSmall }

/-- 'quadrillelaw02.KnotSums', WHERE WHAT IT READS IS OF BULK AT MOST 1048576: true; the input reads as it did. -/
def knotSumsUptoRow : OpenClaim := { program := "ytinmhdikldmcgaadoor", sum := "8a361b0e01c9d4b8e6892514184df76a56a654bcb5ba94445d75f9b97e8ffd9e", func := "quadrille/quadrillelaw02.KnotSums", spec := "knotSums", named := ["quadrille/knot.quarter"], apart := false, laid := [("quadrille/knot.quarter", laid_quadrille_knot_quarter)], narrowed := true }
def KnotSumsUptoSaid : Prop := knotSumsUptoRow.holds Tryd.pinned (OpenSpec.upto knotSumsSpec)

/-- 'quadrillelaw02.KnotApart', WHERE WHAT IT READS IS OF BULK AT MOST 1048576: true; the input reads as it did. -/
def knotApartUptoRow : OpenClaim := { program := "ytinmhdikldmcgaadoor", sum := "8a361b0e01c9d4b8e6892514184df76a56a654bcb5ba94445d75f9b97e8ffd9e", func := "quadrille/quadrillelaw02.KnotApart", spec := "knotApart", named := ["quadrille/knot.quarter"], apart := false, laid := [("quadrille/knot.quarter", laid_quadrille_knot_quarter)], narrowed := true }
def KnotApartUptoSaid : Prop := knotApartUptoRow.holds Tryd.pinned (OpenSpec.upto knotApartSpec)

/-- 'quadrillelaw02.KnotRows', WHERE WHAT IT READS IS OF BULK AT MOST 1048576: true; the input reads as it did. -/
def knotRowsUptoRow : OpenClaim := { program := "ytinmhdikldmcgaadoor", sum := "8a361b0e01c9d4b8e6892514184df76a56a654bcb5ba94445d75f9b97e8ffd9e", func := "quadrille/quadrillelaw02.KnotRows", spec := "knotRows", named := ["quadrille/knot.quarter"], apart := false, laid := [("quadrille/knot.quarter", laid_quadrille_knot_quarter)], narrowed := true }
def KnotRowsUptoSaid : Prop := knotRowsUptoRow.holds Tryd.pinned (OpenSpec.upto knotRowsSpec)

/-- 'quadrillelaw02.KnotReads', WHERE WHAT IT READS IS OF BULK AT MOST 1048576: true; the input reads as it did. -/
def knotReadsUptoRow : OpenClaim := { program := "ytinmhdikldmcgaadoor", sum := "8a361b0e01c9d4b8e6892514184df76a56a654bcb5ba94445d75f9b97e8ffd9e", func := "quadrille/quadrillelaw02.KnotReads", spec := "knotReads", named := ["quadrille/knot.quarter"], apart := false, laid := [("quadrille/knot.quarter", laid_quadrille_knot_quarter)], narrowed := true }
def KnotReadsUptoSaid : Prop := knotReadsUptoRow.holds Tryd.pinned (OpenSpec.upto knotReadsSpec)

/-- 'quadrillelaw02.KnotTies', WHERE WHAT IT READS IS OF BULK AT MOST 1048576: true; the input reads as it did. -/
def knotTiesUptoRow : OpenClaim := { program := "ytinmhdikldmcgaadoor", sum := "8a361b0e01c9d4b8e6892514184df76a56a654bcb5ba94445d75f9b97e8ffd9e", func := "quadrille/quadrillelaw02.KnotTies", spec := "knotTies", named := ["quadrille/knot.quarter"], apart := false, laid := [("quadrille/knot.quarter", laid_quadrille_knot_quarter)], narrowed := true }
def KnotTiesUptoSaid : Prop := knotTiesUptoRow.holds Tryd.pinned (OpenSpec.upto knotTiesSpec)

/-- 'quadrillelaw02.KnotBursts', WHERE WHAT IT READS IS OF BULK AT MOST 1048576: true; the input reads as it did. -/
def knotBurstsUptoRow : OpenClaim := { program := "ytinmhdikldmcgaadoor", sum := "8a361b0e01c9d4b8e6892514184df76a56a654bcb5ba94445d75f9b97e8ffd9e", func := "quadrille/quadrillelaw02.KnotBursts", spec := "knotBursts", named := ["quadrille/knot.quarter"], apart := false, laid := [("quadrille/knot.quarter", laid_quadrille_knot_quarter)], narrowed := true }
def KnotBurstsUptoSaid : Prop := knotBurstsUptoRow.holds Tryd.pinned (OpenSpec.upto knotBurstsSpec)

/-- 'quadrillelaw02.KnotLimits', WHERE WHAT IT READS IS OF BULK AT MOST 1048576: true; the input reads as it did. -/
def knotLimitsUptoRow : OpenClaim := { program := "ytinmhdikldmcgaadoor", sum := "8a361b0e01c9d4b8e6892514184df76a56a654bcb5ba94445d75f9b97e8ffd9e", func := "quadrille/quadrillelaw02.KnotLimits", spec := "knotLimits", named := ["quadrille/knot.quarter"], apart := false, laid := [("quadrille/knot.quarter", laid_quadrille_knot_quarter)], narrowed := true }
def KnotLimitsUptoSaid : Prop := knotLimitsUptoRow.holds Tryd.pinned (OpenSpec.upto knotLimitsSpec)

/-- 'quadrillelaw02.KnotCuts', WHERE WHAT IT READS IS OF BULK AT MOST 1048576: true; the input reads as it did. -/
def knotCutsUptoRow : OpenClaim := { program := "ytinmhdikldmcgaadoor", sum := "8a361b0e01c9d4b8e6892514184df76a56a654bcb5ba94445d75f9b97e8ffd9e", func := "quadrille/quadrillelaw02.KnotCuts", spec := "knotCuts", named := ["quadrille/knot.quarter"], apart := false, laid := [("quadrille/knot.quarter", laid_quadrille_knot_quarter)], narrowed := true }
def KnotCutsUptoSaid : Prop := knotCutsUptoRow.holds Tryd.pinned (OpenSpec.upto knotCutsSpec)

end Rows
end Go.Proofs.YtinmhdikldmcgaaDoor
