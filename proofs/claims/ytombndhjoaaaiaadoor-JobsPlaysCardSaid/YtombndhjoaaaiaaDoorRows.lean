/-
  NARROWER THAN 'FOR EVERY INPUT', by the rows' own cells (each row's printed sentence says how): JobsCredit: laid · JobsFull: laid · JobsApart: laid · JobsOnce: laid · JobsRefused: laid · JobsPlays: laid.
  DERIVED. THE GIVEN ROWS OF THIS SEAT. 6 by the template 'for every input the law returns true; each argument reads behind the call as it read before'; 0 by the template 'total and deterministic' (their statements: YtombndhjoaaaiaaDoorTotals.lean).
  GIVEN WITH THE SEED: the statements are not yours to turn. If you find one false, say at which input.
  Laid BY PROGRAM, IN A SANDBOX (cutbox-rows.mjs): the forced cells as the released guide's own fill.sh prints them over the translation 4c6a37ff43e800d0… (all of the seat's roots in one cut). By AI agents, Wed Nov 11 2026. No macro, syntax, notation, axiom, sorry.
-/
import Derived.Test.YtombndhjoaaaiaaDoorChecked
import GoSem.Claim
import GoSem.ClaimJoined
import GoSem.ClaimMapViews
import Derived.JoinedTies
import Derived.KernelRfl
namespace Go.Proofs.YtombndhjoaaaiaaDoor
/- THE CELL 'sum', in the pinned program and in every row, IS THE sha256 OF THE DUMP (.gsa) THAT YtombndhjoaaaiaaDoorProg.lean LOADS. Nothing in Lean hashes anything: it is a label: what it is worth is what the hold of that sum in a sandbox is worth. -/
noncomputable def Tryd.pinned : Pinned := { name := "ytombndhjoaaaiaadoor", sum := "4c6a37ff43e800d03949fe66b31a9df48c67d7e0c953ae478d9caa23dfc28356", checked := Tryd.checked }
namespace Rows
def none {H : Type} : Left H := { results := [], args := [] }

/- WHAT THE LISTED PACKAGE-LEVEL VARIABLES READ AS WHEN THE CALL BEGINS. Each datum BY PROGRAM (the guide's laid-datum.mjs) off the statement by which the dump's own 'gosem.cut.vars' lays the variable. In a bare row this is a premise. The card (YtombndhjoaaaiaaDoorCards.lean) ties it to the program's text. -/
def laid_quadrille_knot_quarter {H : Type} : DataW H := .agg [.lit (.int .u32 0), .lit (.int .u32 274646895), .lit (.int .u32 549293790), .lit (.int .u32 820201905), .lit (.int .u32 1098587580), .lit (.int .u32 1361435347), .lit (.int .u32 1640403810), .lit (.int .u32 1905808397), .lit (.int .u32 2197175160), .lit (.int .u32 2460548119), .lit (.int .u32 2722870694), .lit (.int .u32 2987750089), .lit (.int .u32 3280807620), .lit (.int .u32 3553878443), .lit (.int .u32 3811616794), .lit (.int .u32 4084100981)]

/-- 'quadrillelaw16.JobsCredit': WHATEVER THE INPUT: true; the input reads as it did. -/
def jobsCreditSpec : ChangeSpec := { name := "jobsCredit", fn := fun _ => fun
  | [d1, d2, d3] => { results := [.lit (.bool true)], args := [d1, d2, d3] }
  | _ => none }
def jobsCreditRow : OpenClaim := { program := "ytombndhjoaaaiaadoor", sum := "4c6a37ff43e800d03949fe66b31a9df48c67d7e0c953ae478d9caa23dfc28356", func := "quadrille/quadrillelaw16.JobsCredit", spec := "jobsCredit", unfollowed := true, recurses := true, named := ["quadrille/knot.quarter"], apart := false, laid := [("quadrille/knot.quarter", laid_quadrille_knot_quarter)] }
def JobsCreditSaid : Prop := jobsCreditRow.holds Tryd.pinned (OpenSpec.ofChange jobsCreditSpec)

/-- ITS FALSE NEIGHBOUR: 'it returns false'. Refute it at one input. -/
def jobsCreditWrong : ChangeSpec := { name := "jobsCredit", fn := fun _ => fun
  | [d1, d2, d3] => { results := [.lit (.bool false)], args := [d1, d2, d3] }
  | _ => none }
def JobsCreditWrongFalsely : Prop := jobsCreditRow.holds Tryd.pinned (OpenSpec.ofChange jobsCreditWrong)

/-- 'quadrillelaw16.JobsFull': WHATEVER THE INPUT: true; the input reads as it did. -/
def jobsFullSpec : ChangeSpec := { name := "jobsFull", fn := fun _ => fun
  | [d] => { results := [.lit (.bool true)], args := [d] }
  | _ => none }
def jobsFullRow : OpenClaim := { program := "ytombndhjoaaaiaadoor", sum := "4c6a37ff43e800d03949fe66b31a9df48c67d7e0c953ae478d9caa23dfc28356", func := "quadrille/quadrillelaw16.JobsFull", spec := "jobsFull", unfollowed := true, recurses := true, named := ["quadrille/knot.quarter"], apart := false, laid := [("quadrille/knot.quarter", laid_quadrille_knot_quarter)] }
def JobsFullSaid : Prop := jobsFullRow.holds Tryd.pinned (OpenSpec.ofChange jobsFullSpec)

/-- ITS FALSE NEIGHBOUR: 'it returns false'. Refute it at one input. -/
def jobsFullWrong : ChangeSpec := { name := "jobsFull", fn := fun _ => fun
  | [d] => { results := [.lit (.bool false)], args := [d] }
  | _ => none }
def JobsFullWrongFalsely : Prop := jobsFullRow.holds Tryd.pinned (OpenSpec.ofChange jobsFullWrong)

/-- 'quadrillelaw16.JobsApart': WHATEVER THE INPUT: true; the input reads as it did. -/
def jobsApartSpec : ChangeSpec := { name := "jobsApart", fn := fun _ => fun
  | [d1, d2] => { results := [.lit (.bool true)], args := [d1, d2] }
  | _ => none }
def jobsApartRow : OpenClaim := { program := "ytombndhjoaaaiaadoor", sum := "4c6a37ff43e800d03949fe66b31a9df48c67d7e0c953ae478d9caa23dfc28356", func := "quadrille/quadrillelaw16.JobsApart", spec := "jobsApart", inPlace := ["maps.clone"], unfollowed := true, recurses := true, named := ["quadrille/knot.quarter"], apart := false, laid := [("quadrille/knot.quarter", laid_quadrille_knot_quarter)] }
def JobsApartSaid : Prop := jobsApartRow.holds Tryd.pinned (OpenSpec.ofChange jobsApartSpec)

/-- ITS FALSE NEIGHBOUR: 'it returns false'. Refute it at one input. -/
def jobsApartWrong : ChangeSpec := { name := "jobsApart", fn := fun _ => fun
  | [d1, d2] => { results := [.lit (.bool false)], args := [d1, d2] }
  | _ => none }
def JobsApartWrongFalsely : Prop := jobsApartRow.holds Tryd.pinned (OpenSpec.ofChange jobsApartWrong)

/-- 'quadrillelaw16.JobsOnce': WHATEVER THE INPUT: true; the input reads as it did. -/
def jobsOnceSpec : ChangeSpec := { name := "jobsOnce", fn := fun _ => fun
  | [d1, d2] => { results := [.lit (.bool true)], args := [d1, d2] }
  | _ => none }
def jobsOnceRow : OpenClaim := { program := "ytombndhjoaaaiaadoor", sum := "4c6a37ff43e800d03949fe66b31a9df48c67d7e0c953ae478d9caa23dfc28356", func := "quadrille/quadrillelaw16.JobsOnce", spec := "jobsOnce", unfollowed := true, recurses := true, named := ["quadrille/knot.quarter"], apart := false, laid := [("quadrille/knot.quarter", laid_quadrille_knot_quarter)] }
def JobsOnceSaid : Prop := jobsOnceRow.holds Tryd.pinned (OpenSpec.ofChange jobsOnceSpec)

/-- ITS FALSE NEIGHBOUR: 'it returns false'. Refute it at one input. -/
def jobsOnceWrong : ChangeSpec := { name := "jobsOnce", fn := fun _ => fun
  | [d1, d2] => { results := [.lit (.bool false)], args := [d1, d2] }
  | _ => none }
def JobsOnceWrongFalsely : Prop := jobsOnceRow.holds Tryd.pinned (OpenSpec.ofChange jobsOnceWrong)

/-- 'quadrillelaw16.JobsRefused': WHATEVER THE INPUT: true; the input reads as it did. -/
def jobsRefusedSpec : ChangeSpec := { name := "jobsRefused", fn := fun _ => fun
  | [d1, d2] => { results := [.lit (.bool true)], args := [d1, d2] }
  | _ => none }
def jobsRefusedRow : OpenClaim := { program := "ytombndhjoaaaiaadoor", sum := "4c6a37ff43e800d03949fe66b31a9df48c67d7e0c953ae478d9caa23dfc28356", func := "quadrille/quadrillelaw16.JobsRefused", spec := "jobsRefused", unfollowed := true, recurses := true, named := ["quadrille/knot.quarter"], apart := false, laid := [("quadrille/knot.quarter", laid_quadrille_knot_quarter)] }
def JobsRefusedSaid : Prop := jobsRefusedRow.holds Tryd.pinned (OpenSpec.ofChange jobsRefusedSpec)

/-- ITS FALSE NEIGHBOUR: 'it returns false'. Refute it at one input. -/
def jobsRefusedWrong : ChangeSpec := { name := "jobsRefused", fn := fun _ => fun
  | [d1, d2] => { results := [.lit (.bool false)], args := [d1, d2] }
  | _ => none }
def JobsRefusedWrongFalsely : Prop := jobsRefusedRow.holds Tryd.pinned (OpenSpec.ofChange jobsRefusedWrong)

/-- 'quadrillelaw16.JobsPlays': WHATEVER THE INPUT: true; the input reads as it did. -/
def jobsPlaysSpec : ChangeSpec := { name := "jobsPlays", fn := fun _ => fun
  | [d1, d2] => { results := [.lit (.bool true)], args := [d1, d2] }
  | _ => none }
def jobsPlaysRow : OpenClaim := { program := "ytombndhjoaaaiaadoor", sum := "4c6a37ff43e800d03949fe66b31a9df48c67d7e0c953ae478d9caa23dfc28356", func := "quadrille/quadrillelaw16.JobsPlays", spec := "jobsPlays", inPlace := ["maps.clone"], unfollowed := true, recurses := true, named := ["quadrille/knot.quarter"], apart := false, laid := [("quadrille/knot.quarter", laid_quadrille_knot_quarter)] }
def JobsPlaysSaid : Prop := jobsPlaysRow.holds Tryd.pinned (OpenSpec.ofChange jobsPlaysSpec)

/-- ITS FALSE NEIGHBOUR: 'it returns false'. Refute it at one input. -/
def jobsPlaysWrong : ChangeSpec := { name := "jobsPlays", fn := fun _ => fun
  | [d1, d2] => { results := [.lit (.bool false)], args := [d1, d2] }
  | _ => none }
def JobsPlaysWrongFalsely : Prop := jobsPlaysRow.holds Tryd.pinned (OpenSpec.ofChange jobsPlaysWrong)

/- THE SECOND FORM. 'bulk': how many values and letters a reading holds, each counted each time it is reached (what is shared counts as often as it is met; a slice's spare places count too). A statement '..UptoSaid' is the law's where the arguments, and the package variables that the reading takes, are together of bulk at most 1048576: NARROWER than '..Said'. Prove '..Said' where nothing that the law and all that it calls make is longer than what came in: it says more and counts as full. Else prove '..UptoSaid'. A law counts once. -/
mutual
def uptoBulk {H : Type} : DataW H → Nat
  | .lit (.string bytes) => bytes.length + 1
  | .lit _ => 1
  | .nil => 1
  | .ptr d => uptoBulk d + 1
  | .slice elems spare => uptoBulkAll elems + uptoBulkAll spare + 1
  | .agg parts => uptoBulkAll parts + 1
  | .iface _ d => uptoBulk d + 1
  | .map entries => uptoBulkEntries entries + 1
  | .held _ => 1
def uptoBulkAll {H : Type} : List (DataW H) → Nat
  | [] => 0
  | d :: r => uptoBulk d + uptoBulkAll r
def uptoBulkEntries {H : Type} : List (Lit × DataW H) → Nat
  | [] => 0
  | x :: r => uptoBulkEntry x + uptoBulkEntries r
def uptoBulkEntry {H : Type} : Lit × DataW H → Nat
  | (.string bytes, d) => bytes.length + uptoBulk d + 1
  | (_, d) => uptoBulk d + 1
 end
def uptoSmall : (H : Type) → List (DataW H) → Bool := fun _ ds => decide (uptoBulkAll ds ≤ 1048576)
def OpenSpec.upto (s : _root_.Go.ChangeSpec) : _root_.Go.OpenSpec := { _root_.Go.OpenSpec.ofChange s with cond := some uptoSmall }

/-- 'quadrillelaw16.JobsCredit', WHERE WHAT IT READS IS OF BULK AT MOST 1048576: true; the input reads as it did. -/
def jobsCreditUptoRow : OpenClaim := { program := "ytombndhjoaaaiaadoor", sum := "4c6a37ff43e800d03949fe66b31a9df48c67d7e0c953ae478d9caa23dfc28356", func := "quadrille/quadrillelaw16.JobsCredit", spec := "jobsCredit", unfollowed := true, recurses := true, named := ["quadrille/knot.quarter"], apart := false, laid := [("quadrille/knot.quarter", laid_quadrille_knot_quarter)], narrowed := true }
def JobsCreditUptoSaid : Prop := jobsCreditUptoRow.holds Tryd.pinned (OpenSpec.upto jobsCreditSpec)

/-- 'quadrillelaw16.JobsFull', WHERE WHAT IT READS IS OF BULK AT MOST 1048576: true; the input reads as it did. -/
def jobsFullUptoRow : OpenClaim := { program := "ytombndhjoaaaiaadoor", sum := "4c6a37ff43e800d03949fe66b31a9df48c67d7e0c953ae478d9caa23dfc28356", func := "quadrille/quadrillelaw16.JobsFull", spec := "jobsFull", unfollowed := true, recurses := true, named := ["quadrille/knot.quarter"], apart := false, laid := [("quadrille/knot.quarter", laid_quadrille_knot_quarter)], narrowed := true }
def JobsFullUptoSaid : Prop := jobsFullUptoRow.holds Tryd.pinned (OpenSpec.upto jobsFullSpec)

/-- 'quadrillelaw16.JobsApart', WHERE WHAT IT READS IS OF BULK AT MOST 1048576: true; the input reads as it did. -/
def jobsApartUptoRow : OpenClaim := { program := "ytombndhjoaaaiaadoor", sum := "4c6a37ff43e800d03949fe66b31a9df48c67d7e0c953ae478d9caa23dfc28356", func := "quadrille/quadrillelaw16.JobsApart", spec := "jobsApart", inPlace := ["maps.clone"], unfollowed := true, recurses := true, named := ["quadrille/knot.quarter"], apart := false, laid := [("quadrille/knot.quarter", laid_quadrille_knot_quarter)], narrowed := true }
def JobsApartUptoSaid : Prop := jobsApartUptoRow.holds Tryd.pinned (OpenSpec.upto jobsApartSpec)

/-- 'quadrillelaw16.JobsOnce', WHERE WHAT IT READS IS OF BULK AT MOST 1048576: true; the input reads as it did. -/
def jobsOnceUptoRow : OpenClaim := { program := "ytombndhjoaaaiaadoor", sum := "4c6a37ff43e800d03949fe66b31a9df48c67d7e0c953ae478d9caa23dfc28356", func := "quadrille/quadrillelaw16.JobsOnce", spec := "jobsOnce", unfollowed := true, recurses := true, named := ["quadrille/knot.quarter"], apart := false, laid := [("quadrille/knot.quarter", laid_quadrille_knot_quarter)], narrowed := true }
def JobsOnceUptoSaid : Prop := jobsOnceUptoRow.holds Tryd.pinned (OpenSpec.upto jobsOnceSpec)

/-- 'quadrillelaw16.JobsRefused', WHERE WHAT IT READS IS OF BULK AT MOST 1048576: true; the input reads as it did. -/
def jobsRefusedUptoRow : OpenClaim := { program := "ytombndhjoaaaiaadoor", sum := "4c6a37ff43e800d03949fe66b31a9df48c67d7e0c953ae478d9caa23dfc28356", func := "quadrille/quadrillelaw16.JobsRefused", spec := "jobsRefused", unfollowed := true, recurses := true, named := ["quadrille/knot.quarter"], apart := false, laid := [("quadrille/knot.quarter", laid_quadrille_knot_quarter)], narrowed := true }
def JobsRefusedUptoSaid : Prop := jobsRefusedUptoRow.holds Tryd.pinned (OpenSpec.upto jobsRefusedSpec)

/-- 'quadrillelaw16.JobsPlays', WHERE WHAT IT READS IS OF BULK AT MOST 1048576: true; the input reads as it did. -/
def jobsPlaysUptoRow : OpenClaim := { program := "ytombndhjoaaaiaadoor", sum := "4c6a37ff43e800d03949fe66b31a9df48c67d7e0c953ae478d9caa23dfc28356", func := "quadrille/quadrillelaw16.JobsPlays", spec := "jobsPlays", inPlace := ["maps.clone"], unfollowed := true, recurses := true, named := ["quadrille/knot.quarter"], apart := false, laid := [("quadrille/knot.quarter", laid_quadrille_knot_quarter)], narrowed := true }
def JobsPlaysUptoSaid : Prop := jobsPlaysUptoRow.holds Tryd.pinned (OpenSpec.upto jobsPlaysSpec)

end Rows
end Go.Proofs.YtombndhjoaaaiaaDoor
