/-
  NARROWER THAN 'FOR EVERY INPUT', by the rows' own cells (each row's printed sentence says how): NoteApart: laid · NoteNotes: laid · NoteAsks: laid · NoteBursts: laid · NotePackets: laid · NoteReads: laid · NoteBodies: laid.
  DERIVED. THE GIVEN ROWS OF THIS SEAT. 7 by the template 'for every input the law returns true; each argument reads behind the call as it read before'; 0 by the template 'total and deterministic' (their statements: YtmmcmldcbdaooaaDoorTotals.lean).
  GIVEN WITH THE SEED: the statements are not yours to turn. If you find one false, say at which input.
  Laid BY PROGRAM, IN A SANDBOX (cutbox-rows.mjs): the forced cells as the released guide's own fill.sh prints them over the translation b3239fd4c4447184… (all of the seat's roots in one cut). By AI agents, Wed Nov 11 2026. No macro, syntax, notation, axiom, sorry.
-/
import Derived.Test.YtmmcmldcbdaooaaDoorChecked
import GoSem.Claim
import GoSem.ClaimJoined
import GoSem.ClaimMapViews
import Derived.JoinedTies
import Derived.KernelRfl
namespace Go.Proofs.YtmmcmldcbdaooaaDoor
/- THE CELL 'sum', in the pinned program and in every row, IS THE sha256 OF THE DUMP (.gsa) THAT YtmmcmldcbdaooaaDoorProg.lean LOADS. Nothing in Lean hashes anything: it is a label: what it is worth is what the hold of that sum in a sandbox is worth. -/
noncomputable def Tryd.pinned : Pinned := { name := "ytmmcmldcbdaooaadoor", sum := "b3239fd4c4447184e65f9b9e5d263da7c1139fc4a28617eba866391ddc08c788", checked := Tryd.checked }
namespace Rows
def none {H : Type} : Left H := { results := [], args := [] }

/- WHAT THE LISTED PACKAGE-LEVEL VARIABLES READ AS WHEN THE CALL BEGINS. Each datum BY PROGRAM (the guide's laid-datum.mjs) off the statement by which the dump's own 'gosem.cut.vars' lays the variable. In a bare row this is a premise. The card (YtmmcmldcbdaooaaDoorCards.lean) ties it to the program's text. -/
def laid_quadrille_knot_quarter {H : Type} : DataW H := .agg [.lit (.int .u32 0), .lit (.int .u32 274646895), .lit (.int .u32 549293790), .lit (.int .u32 820201905), .lit (.int .u32 1098587580), .lit (.int .u32 1361435347), .lit (.int .u32 1640403810), .lit (.int .u32 1905808397), .lit (.int .u32 2197175160), .lit (.int .u32 2460548119), .lit (.int .u32 2722870694), .lit (.int .u32 2987750089), .lit (.int .u32 3280807620), .lit (.int .u32 3553878443), .lit (.int .u32 3811616794), .lit (.int .u32 4084100981)]

/-- 'quadrillelaw04.NoteApart': WHATEVER THE INPUT: true; the input reads as it did. -/
def noteApartSpec : ChangeSpec := { name := "noteApart", fn := fun _ => fun
  | [d1, d2, d3, d4] => { results := [.lit (.bool true)], args := [d1, d2, d3, d4] }
  | _ => none }
def noteApartRow : OpenClaim := { program := "ytmmcmldcbdaooaadoor", sum := "b3239fd4c4447184e65f9b9e5d263da7c1139fc4a28617eba866391ddc08c788", func := "quadrille/quadrillelaw04.NoteApart", spec := "noteApart", unfollowed := true, recurses := true, named := ["quadrille/knot.quarter"], apart := false, laid := [("quadrille/knot.quarter", laid_quadrille_knot_quarter)] }
def NoteApartSaid : Prop := noteApartRow.holds Tryd.pinned (OpenSpec.ofChange noteApartSpec)

/-- ITS FALSE NEIGHBOUR: 'it returns false'. Refute it at one input. -/
def noteApartWrong : ChangeSpec := { name := "noteApart", fn := fun _ => fun
  | [d1, d2, d3, d4] => { results := [.lit (.bool false)], args := [d1, d2, d3, d4] }
  | _ => none }
def NoteApartWrongFalsely : Prop := noteApartRow.holds Tryd.pinned (OpenSpec.ofChange noteApartWrong)

/-- 'quadrillelaw04.NoteNotes': WHATEVER THE INPUT: true; the input reads as it did. -/
def noteNotesSpec : ChangeSpec := { name := "noteNotes", fn := fun _ => fun
  | [d] => { results := [.lit (.bool true)], args := [d] }
  | _ => none }
def noteNotesRow : OpenClaim := { program := "ytmmcmldcbdaooaadoor", sum := "b3239fd4c4447184e65f9b9e5d263da7c1139fc4a28617eba866391ddc08c788", func := "quadrille/quadrillelaw04.NoteNotes", spec := "noteNotes", unfollowed := true, recurses := true, named := ["quadrille/knot.quarter"], apart := false, laid := [("quadrille/knot.quarter", laid_quadrille_knot_quarter)] }
def NoteNotesSaid : Prop := noteNotesRow.holds Tryd.pinned (OpenSpec.ofChange noteNotesSpec)

/-- ITS FALSE NEIGHBOUR: 'it returns false'. Refute it at one input. -/
def noteNotesWrong : ChangeSpec := { name := "noteNotes", fn := fun _ => fun
  | [d] => { results := [.lit (.bool false)], args := [d] }
  | _ => none }
def NoteNotesWrongFalsely : Prop := noteNotesRow.holds Tryd.pinned (OpenSpec.ofChange noteNotesWrong)

/-- 'quadrillelaw04.NoteAsks': WHATEVER THE INPUT: true; the input reads as it did. -/
def noteAsksSpec : ChangeSpec := { name := "noteAsks", fn := fun _ => fun
  | [d1, d2] => { results := [.lit (.bool true)], args := [d1, d2] }
  | _ => none }
def noteAsksRow : OpenClaim := { program := "ytmmcmldcbdaooaadoor", sum := "b3239fd4c4447184e65f9b9e5d263da7c1139fc4a28617eba866391ddc08c788", func := "quadrille/quadrillelaw04.NoteAsks", spec := "noteAsks", unfollowed := true, recurses := true, named := ["quadrille/knot.quarter"], apart := false, laid := [("quadrille/knot.quarter", laid_quadrille_knot_quarter)] }
def NoteAsksSaid : Prop := noteAsksRow.holds Tryd.pinned (OpenSpec.ofChange noteAsksSpec)

/-- ITS FALSE NEIGHBOUR: 'it returns false'. Refute it at one input. -/
def noteAsksWrong : ChangeSpec := { name := "noteAsks", fn := fun _ => fun
  | [d1, d2] => { results := [.lit (.bool false)], args := [d1, d2] }
  | _ => none }
def NoteAsksWrongFalsely : Prop := noteAsksRow.holds Tryd.pinned (OpenSpec.ofChange noteAsksWrong)

/-- 'quadrillelaw04.NoteBursts': WHATEVER THE INPUT: true; the input reads as it did. -/
def noteBurstsSpec : ChangeSpec := { name := "noteBursts", fn := fun _ => fun
  | [d1, d2, d3, d4] => { results := [.lit (.bool true)], args := [d1, d2, d3, d4] }
  | _ => none }
def noteBurstsRow : OpenClaim := { program := "ytmmcmldcbdaooaadoor", sum := "b3239fd4c4447184e65f9b9e5d263da7c1139fc4a28617eba866391ddc08c788", func := "quadrille/quadrillelaw04.NoteBursts", spec := "noteBursts", unfollowed := true, recurses := true, named := ["quadrille/knot.quarter"], apart := false, laid := [("quadrille/knot.quarter", laid_quadrille_knot_quarter)] }
def NoteBurstsSaid : Prop := noteBurstsRow.holds Tryd.pinned (OpenSpec.ofChange noteBurstsSpec)

/-- ITS FALSE NEIGHBOUR: 'it returns false'. Refute it at one input. -/
def noteBurstsWrong : ChangeSpec := { name := "noteBursts", fn := fun _ => fun
  | [d1, d2, d3, d4] => { results := [.lit (.bool false)], args := [d1, d2, d3, d4] }
  | _ => none }
def NoteBurstsWrongFalsely : Prop := noteBurstsRow.holds Tryd.pinned (OpenSpec.ofChange noteBurstsWrong)

/-- 'quadrillelaw04.NotePackets': WHATEVER THE INPUT: true; the input reads as it did. -/
def notePacketsSpec : ChangeSpec := { name := "notePackets", fn := fun _ => fun
  | [d] => { results := [.lit (.bool true)], args := [d] }
  | _ => none }
def notePacketsRow : OpenClaim := { program := "ytmmcmldcbdaooaadoor", sum := "b3239fd4c4447184e65f9b9e5d263da7c1139fc4a28617eba866391ddc08c788", func := "quadrille/quadrillelaw04.NotePackets", spec := "notePackets", unfollowed := true, recurses := true, named := ["quadrille/knot.quarter"], apart := false, laid := [("quadrille/knot.quarter", laid_quadrille_knot_quarter)] }
def NotePacketsSaid : Prop := notePacketsRow.holds Tryd.pinned (OpenSpec.ofChange notePacketsSpec)

/-- ITS FALSE NEIGHBOUR: 'it returns false'. Refute it at one input. -/
def notePacketsWrong : ChangeSpec := { name := "notePackets", fn := fun _ => fun
  | [d] => { results := [.lit (.bool false)], args := [d] }
  | _ => none }
def NotePacketsWrongFalsely : Prop := notePacketsRow.holds Tryd.pinned (OpenSpec.ofChange notePacketsWrong)

/-- 'quadrillelaw04.NoteReads': WHATEVER THE INPUT: true; the input reads as it did. -/
def noteReadsSpec : ChangeSpec := { name := "noteReads", fn := fun _ => fun
  | [d] => { results := [.lit (.bool true)], args := [d] }
  | _ => none }
def noteReadsRow : OpenClaim := { program := "ytmmcmldcbdaooaadoor", sum := "b3239fd4c4447184e65f9b9e5d263da7c1139fc4a28617eba866391ddc08c788", func := "quadrille/quadrillelaw04.NoteReads", spec := "noteReads", unfollowed := true, recurses := true, named := ["quadrille/knot.quarter"], apart := false, laid := [("quadrille/knot.quarter", laid_quadrille_knot_quarter)] }
def NoteReadsSaid : Prop := noteReadsRow.holds Tryd.pinned (OpenSpec.ofChange noteReadsSpec)

/-- ITS FALSE NEIGHBOUR: 'it returns false'. Refute it at one input. -/
def noteReadsWrong : ChangeSpec := { name := "noteReads", fn := fun _ => fun
  | [d] => { results := [.lit (.bool false)], args := [d] }
  | _ => none }
def NoteReadsWrongFalsely : Prop := noteReadsRow.holds Tryd.pinned (OpenSpec.ofChange noteReadsWrong)

/-- 'quadrillelaw04.NoteBodies': WHATEVER THE INPUT: true; the input reads as it did. -/
def noteBodiesSpec : ChangeSpec := { name := "noteBodies", fn := fun _ => fun
  | [d] => { results := [.lit (.bool true)], args := [d] }
  | _ => none }
def noteBodiesRow : OpenClaim := { program := "ytmmcmldcbdaooaadoor", sum := "b3239fd4c4447184e65f9b9e5d263da7c1139fc4a28617eba866391ddc08c788", func := "quadrille/quadrillelaw04.NoteBodies", spec := "noteBodies", unfollowed := true, recurses := true, named := ["quadrille/knot.quarter"], apart := false, laid := [("quadrille/knot.quarter", laid_quadrille_knot_quarter)] }
def NoteBodiesSaid : Prop := noteBodiesRow.holds Tryd.pinned (OpenSpec.ofChange noteBodiesSpec)

/-- ITS FALSE NEIGHBOUR: 'it returns false'. Refute it at one input. -/
def noteBodiesWrong : ChangeSpec := { name := "noteBodies", fn := fun _ => fun
  | [d] => { results := [.lit (.bool false)], args := [d] }
  | _ => none }
def NoteBodiesWrongFalsely : Prop := noteBodiesRow.holds Tryd.pinned (OpenSpec.ofChange noteBodiesWrong)

/- THE SECOND FORM. 'bulk': how many values and letters a reading holds, each counted each time it is reached (what is shared counts as often as it is met; a slice's spare places count too). A statement '..UptoSaid' is the law's where the arguments, and the package variables that the reading takes, are together of bulk at most 1048576: NARROWER than '..Said'. Prove '..Said' where nothing that the law and all that it calls make is longer than what came in: it says more and counts as full. Else prove '..UptoSaid'. A law counts once. -/
mutual
def uptoBulk {H : Type} : DataW H → Nat
  | .lit (.string bytes) => bytes.length + 1
  | .lit _ => 1
  | .nil => 1
  | .ptr d => uptoBulk d + 1
  | .slice elems spare => uptoBulkAll elems + uptoBulkAll spare + 1
  | .agg parts => uptoBulkAll parts + 1
  | .iface _ d => uptoBulk d + 1
  | .map entries => uptoBulkEntries entries + 1
  | .held _ => 1
def uptoBulkAll {H : Type} : List (DataW H) → Nat
  | [] => 0
  | d :: r => uptoBulk d + uptoBulkAll r
def uptoBulkEntries {H : Type} : List (Lit × DataW H) → Nat
  | [] => 0
  | x :: r => uptoBulkEntry x + uptoBulkEntries r
def uptoBulkEntry {H : Type} : Lit × DataW H → Nat
  | (.string bytes, d) => bytes.length + uptoBulk d + 1
  | (_, d) => uptoBulk d + 1
 end
def uptoSmall : (H : Type) → List (DataW H) → Bool := fun _ ds => decide (uptoBulkAll ds ≤ 1048576)
def OpenSpec.upto (s : _root_.Go.ChangeSpec) : _root_.Go.OpenSpec := { _root_.Go.OpenSpec.ofChange s with cond := some uptoSmall }

/-- 'quadrillelaw04.NoteApart', WHERE WHAT IT READS IS OF BULK AT MOST 1048576: true; the input reads as it did. -/
def noteApartUptoRow : OpenClaim := { program := "ytmmcmldcbdaooaadoor", sum := "b3239fd4c4447184e65f9b9e5d263da7c1139fc4a28617eba866391ddc08c788", func := "quadrille/quadrillelaw04.NoteApart", spec := "noteApart", unfollowed := true, recurses := true, named := ["quadrille/knot.quarter"], apart := false, laid := [("quadrille/knot.quarter", laid_quadrille_knot_quarter)], narrowed := true }
def NoteApartUptoSaid : Prop := noteApartUptoRow.holds Tryd.pinned (OpenSpec.upto noteApartSpec)

/-- 'quadrillelaw04.NoteNotes', WHERE WHAT IT READS IS OF BULK AT MOST 1048576: true; the input reads as it did. -/
def noteNotesUptoRow : OpenClaim := { program := "ytmmcmldcbdaooaadoor", sum := "b3239fd4c4447184e65f9b9e5d263da7c1139fc4a28617eba866391ddc08c788", func := "quadrille/quadrillelaw04.NoteNotes", spec := "noteNotes", unfollowed := true, recurses := true, named := ["quadrille/knot.quarter"], apart := false, laid := [("quadrille/knot.quarter", laid_quadrille_knot_quarter)], narrowed := true }
def NoteNotesUptoSaid : Prop := noteNotesUptoRow.holds Tryd.pinned (OpenSpec.upto noteNotesSpec)

/-- 'quadrillelaw04.NoteAsks', WHERE WHAT IT READS IS OF BULK AT MOST 1048576: true; the input reads as it did. -/
def noteAsksUptoRow : OpenClaim := { program := "ytmmcmldcbdaooaadoor", sum := "b3239fd4c4447184e65f9b9e5d263da7c1139fc4a28617eba866391ddc08c788", func := "quadrille/quadrillelaw04.NoteAsks", spec := "noteAsks", unfollowed := true, recurses := true, named := ["quadrille/knot.quarter"], apart := false, laid := [("quadrille/knot.quarter", laid_quadrille_knot_quarter)], narrowed := true }
def NoteAsksUptoSaid : Prop := noteAsksUptoRow.holds Tryd.pinned (OpenSpec.upto noteAsksSpec)

/-- 'quadrillelaw04.NoteBursts', WHERE WHAT IT READS IS OF BULK AT MOST 1048576: true; the input reads as it did. -/
def noteBurstsUptoRow : OpenClaim := { program := "ytmmcmldcbdaooaadoor", sum := "b3239fd4c4447184e65f9b9e5d263da7c1139fc4a28617eba866391ddc08c788", func := "quadrille/quadrillelaw04.NoteBursts", spec := "noteBursts", unfollowed := true, recurses := true, named := ["quadrille/knot.quarter"], apart := false, laid := [("quadrille/knot.quarter", laid_quadrille_knot_quarter)], narrowed := true }
def NoteBurstsUptoSaid : Prop := noteBurstsUptoRow.holds Tryd.pinned (OpenSpec.upto noteBurstsSpec)

/-- 'quadrillelaw04.NotePackets', WHERE WHAT IT READS IS OF BULK AT MOST 1048576: true; the input reads as it did. -/
def notePacketsUptoRow : OpenClaim := { program := "ytmmcmldcbdaooaadoor", sum := "b3239fd4c4447184e65f9b9e5d263da7c1139fc4a28617eba866391ddc08c788", func := "quadrille/quadrillelaw04.NotePackets", spec := "notePackets", unfollowed := true, recurses := true, named := ["quadrille/knot.quarter"], apart := false, laid := [("quadrille/knot.quarter", laid_quadrille_knot_quarter)], narrowed := true }
def NotePacketsUptoSaid : Prop := notePacketsUptoRow.holds Tryd.pinned (OpenSpec.upto notePacketsSpec)

/-- 'quadrillelaw04.NoteReads', WHERE WHAT IT READS IS OF BULK AT MOST 1048576: true; the input reads as it did. -/
def noteReadsUptoRow : OpenClaim := { program := "ytmmcmldcbdaooaadoor", sum := "b3239fd4c4447184e65f9b9e5d263da7c1139fc4a28617eba866391ddc08c788", func := "quadrille/quadrillelaw04.NoteReads", spec := "noteReads", unfollowed := true, recurses := true, named := ["quadrille/knot.quarter"], apart := false, laid := [("quadrille/knot.quarter", laid_quadrille_knot_quarter)], narrowed := true }
def NoteReadsUptoSaid : Prop := noteReadsUptoRow.holds Tryd.pinned (OpenSpec.upto noteReadsSpec)

/-- 'quadrillelaw04.NoteBodies', WHERE WHAT IT READS IS OF BULK AT MOST 1048576: true; the input reads as it did. -/
def noteBodiesUptoRow : OpenClaim := { program := "ytmmcmldcbdaooaadoor", sum := "b3239fd4c4447184e65f9b9e5d263da7c1139fc4a28617eba866391ddc08c788", func := "quadrille/quadrillelaw04.NoteBodies", spec := "noteBodies", unfollowed := true, recurses := true, named := ["quadrille/knot.quarter"], apart := false, laid := [("quadrille/knot.quarter", laid_quadrille_knot_quarter)], narrowed := true }
def NoteBodiesUptoSaid : Prop := noteBodiesUptoRow.holds Tryd.pinned (OpenSpec.upto noteBodiesSpec)

end Rows
end Go.Proofs.YtmmcmldcbdaooaaDoor
