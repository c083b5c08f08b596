/-
  NARROWER THAN 'FOR EVERY INPUT', by the rows' own cells (each row's printed sentence says how): BlockReads: laid · BlockMaps: laid · BlockApart: laid · BlockTurned: laid · BlockPlays: laid · BlockRoots: laid.
  DERIVED. THE GIVEN ROWS OF THIS SEAT. 6 by the template 'for every input the law returns true; each argument reads behind the call as it read before'; 0 by the template 'total and deterministic' (their statements: YtkaidbfpgdfpfaaDoorTotals.lean).
  GIVEN WITH THE SEED: the statements are not yours to turn. If you find one false, say at which input.
  Laid BY PROGRAM, IN A SANDBOX (cutbox-rows.mjs): the forced cells as the released guide's own fill.sh prints them over the translation 34633702efe411a2… (all of the seat's roots in one cut). By AI agents, Wed Nov 11 2026. No macro, syntax, notation, axiom, sorry.
-/
import Derived.Test.YtkaidbfpgdfpfaaDoorChecked
import GoSem.PinnedTables
import GoSem.Claim
import GoSem.ClaimJoined
import GoSem.ClaimMapViews
import Derived.JoinedTies
import Derived.KernelRfl
namespace Go.Proofs.YtkaidbfpgdfpfaaDoor
/- THE CELL 'sum', in the pinned program and in every row, IS THE sha256 OF THE DUMP (.gsa) THAT YtkaidbfpgdfpfaaDoorProg.lean LOADS. Nothing in Lean hashes anything: it is a label: what it is worth is what the hold of that sum in a sandbox is worth. -/
noncomputable def Tryd.pinned : Pinned := { name := "ytkaidbfpgdfpfaadoor", sum := "34633702efe411a26494e0ef3fd0cf34841da6d382f02087c8d25e76d49c5fd8", checked := Tryd.checked }
namespace Rows
def none {H : Type} : Left H := { results := [], args := [] }

/- WHAT THE LISTED PACKAGE-LEVEL VARIABLES READ AS WHEN THE CALL BEGINS. Each datum BY PROGRAM (the guide's laid-datum.mjs) off the statement by which the dump's own 'gosem.cut.vars' lays the variable. In a bare row this is a premise. The card (YtkaidbfpgdfpfaaDoorCards.lean) ties it to the program's text. -/
def laid_unicode_utf8_acceptRanges {H : Type} : DataW H := .agg [.agg [.lit (.int .u8 128), .lit (.int .u8 191)], .agg [.lit (.int .u8 160), .lit (.int .u8 191)], .agg [.lit (.int .u8 128), .lit (.int .u8 159)], .agg [.lit (.int .u8 144), .lit (.int .u8 191)], .agg [.lit (.int .u8 128), .lit (.int .u8 143)], .agg [.lit (.int .u8 0), .lit (.int .u8 0)], .agg [.lit (.int .u8 0), .lit (.int .u8 0)], .agg [.lit (.int .u8 0), .lit (.int .u8 0)], .agg [.lit (.int .u8 0), .lit (.int .u8 0)], .agg [.lit (.int .u8 0), .lit (.int .u8 0)], .agg [.lit (.int .u8 0), .lit (.int .u8 0)], .agg [.lit (.int .u8 0), .lit (.int .u8 0)], .agg [.lit (.int .u8 0), .lit (.int .u8 0)], .agg [.lit (.int .u8 0), .lit (.int .u8 0)], .agg [.lit (.int .u8 0), .lit (.int .u8 0)], .agg [.lit (.int .u8 0), .lit (.int .u8 0)]]
def laid_quadrille_knot_quarter {H : Type} : DataW H := .agg [.lit (.int .u32 0), .lit (.int .u32 274646895), .lit (.int .u32 549293790), .lit (.int .u32 820201905), .lit (.int .u32 1098587580), .lit (.int .u32 1361435347), .lit (.int .u32 1640403810), .lit (.int .u32 1905808397), .lit (.int .u32 2197175160), .lit (.int .u32 2460548119), .lit (.int .u32 2722870694), .lit (.int .u32 2987750089), .lit (.int .u32 3280807620), .lit (.int .u32 3553878443), .lit (.int .u32 3811616794), .lit (.int .u32 4084100981)]
/-- One of Go's own tables, pinned by name: the form's constant. -/
def laid_unicode_utf8_first : DataW Unit := Go.Pinned.utf8First

/-- 'quadrillelaw06.BlockReads': WHATEVER THE INPUT: true; the input reads as it did. -/
def blockReadsSpec : ChangeSpec := { name := "blockReads", fn := fun _ => fun
  | [d] => { results := [.lit (.bool true)], args := [d] }
  | _ => none }
def blockReadsRow : OpenClaim := { program := "ytkaidbfpgdfpfaadoor", sum := "34633702efe411a26494e0ef3fd0cf34841da6d382f02087c8d25e76d49c5fd8", func := "quadrille/quadrillelaw06.BlockReads", spec := "blockReads", named := ["quadrille/knot.quarter", "unicode/utf8.first", "unicode/utf8.acceptRanges"], apart := false, laid := [("unicode/utf8.acceptRanges", laid_unicode_utf8_acceptRanges), ("quadrille/knot.quarter", laid_quadrille_knot_quarter), ("unicode/utf8.first", laid_unicode_utf8_first)] }
def BlockReadsSaid : Prop := blockReadsRow.holds Tryd.pinned (OpenSpec.ofChange blockReadsSpec)

/-- ITS FALSE NEIGHBOUR: 'it returns false'. Refute it at one input. -/
def blockReadsWrong : ChangeSpec := { name := "blockReads", fn := fun _ => fun
  | [d] => { results := [.lit (.bool false)], args := [d] }
  | _ => none }
def BlockReadsWrongFalsely : Prop := blockReadsRow.holds Tryd.pinned (OpenSpec.ofChange blockReadsWrong)

/-- 'quadrillelaw06.BlockMaps': WHATEVER THE INPUT: true; the input reads as it did. -/
def blockMapsSpec : ChangeSpec := { name := "blockMaps", fn := fun _ => fun
  | [d1, d2] => { results := [.lit (.bool true)], args := [d1, d2] }
  | _ => none }
def blockMapsRow : OpenClaim := { program := "ytkaidbfpgdfpfaadoor", sum := "34633702efe411a26494e0ef3fd0cf34841da6d382f02087c8d25e76d49c5fd8", func := "quadrille/quadrillelaw06.BlockMaps", spec := "blockMaps", named := ["quadrille/knot.quarter", "unicode/utf8.first", "unicode/utf8.acceptRanges"], apart := false, laid := [("unicode/utf8.acceptRanges", laid_unicode_utf8_acceptRanges), ("quadrille/knot.quarter", laid_quadrille_knot_quarter), ("unicode/utf8.first", laid_unicode_utf8_first)] }
def BlockMapsSaid : Prop := blockMapsRow.holds Tryd.pinned (OpenSpec.ofChange blockMapsSpec)

/-- ITS FALSE NEIGHBOUR: 'it returns false'. Refute it at one input. -/
def blockMapsWrong : ChangeSpec := { name := "blockMaps", fn := fun _ => fun
  | [d1, d2] => { results := [.lit (.bool false)], args := [d1, d2] }
  | _ => none }
def BlockMapsWrongFalsely : Prop := blockMapsRow.holds Tryd.pinned (OpenSpec.ofChange blockMapsWrong)

/-- 'quadrillelaw06.BlockApart': WHATEVER THE INPUT: true; the input reads as it did. -/
def blockApartSpec : ChangeSpec := { name := "blockApart", fn := fun _ => fun
  | [d1, d2, d3] => { results := [.lit (.bool true)], args := [d1, d2, d3] }
  | _ => none }
def blockApartRow : OpenClaim := { program := "ytkaidbfpgdfpfaadoor", sum := "34633702efe411a26494e0ef3fd0cf34841da6d382f02087c8d25e76d49c5fd8", func := "quadrille/quadrillelaw06.BlockApart", spec := "blockApart", named := ["quadrille/knot.quarter", "unicode/utf8.first", "unicode/utf8.acceptRanges"], apart := false, laid := [("unicode/utf8.acceptRanges", laid_unicode_utf8_acceptRanges), ("quadrille/knot.quarter", laid_quadrille_knot_quarter), ("unicode/utf8.first", laid_unicode_utf8_first)] }
def BlockApartSaid : Prop := blockApartRow.holds Tryd.pinned (OpenSpec.ofChange blockApartSpec)

/-- ITS FALSE NEIGHBOUR: 'it returns false'. Refute it at one input. -/
def blockApartWrong : ChangeSpec := { name := "blockApart", fn := fun _ => fun
  | [d1, d2, d3] => { results := [.lit (.bool false)], args := [d1, d2, d3] }
  | _ => none }
def BlockApartWrongFalsely : Prop := blockApartRow.holds Tryd.pinned (OpenSpec.ofChange blockApartWrong)

/-- 'quadrillelaw06.BlockTurned': WHATEVER THE INPUT: true; the input reads as it did. -/
def blockTurnedSpec : ChangeSpec := { name := "blockTurned", fn := fun _ => fun
  | [d1, d2, d3] => { results := [.lit (.bool true)], args := [d1, d2, d3] }
  | _ => none }
def blockTurnedRow : OpenClaim := { program := "ytkaidbfpgdfpfaadoor", sum := "34633702efe411a26494e0ef3fd0cf34841da6d382f02087c8d25e76d49c5fd8", func := "quadrille/quadrillelaw06.BlockTurned", spec := "blockTurned", named := ["quadrille/knot.quarter", "unicode/utf8.first", "unicode/utf8.acceptRanges"], apart := false, laid := [("unicode/utf8.acceptRanges", laid_unicode_utf8_acceptRanges), ("quadrille/knot.quarter", laid_quadrille_knot_quarter), ("unicode/utf8.first", laid_unicode_utf8_first)] }
def BlockTurnedSaid : Prop := blockTurnedRow.holds Tryd.pinned (OpenSpec.ofChange blockTurnedSpec)

/-- ITS FALSE NEIGHBOUR: 'it returns false'. Refute it at one input. -/
def blockTurnedWrong : ChangeSpec := { name := "blockTurned", fn := fun _ => fun
  | [d1, d2, d3] => { results := [.lit (.bool false)], args := [d1, d2, d3] }
  | _ => none }
def BlockTurnedWrongFalsely : Prop := blockTurnedRow.holds Tryd.pinned (OpenSpec.ofChange blockTurnedWrong)

/-- 'quadrillelaw06.BlockPlays': WHATEVER THE INPUT: true; the input reads as it did. -/
def blockPlaysSpec : ChangeSpec := { name := "blockPlays", fn := fun _ => fun
  | [d1, d2, d3] => { results := [.lit (.bool true)], args := [d1, d2, d3] }
  | _ => none }
def blockPlaysRow : OpenClaim := { program := "ytkaidbfpgdfpfaadoor", sum := "34633702efe411a26494e0ef3fd0cf34841da6d382f02087c8d25e76d49c5fd8", func := "quadrille/quadrillelaw06.BlockPlays", spec := "blockPlays", named := ["quadrille/knot.quarter", "unicode/utf8.first", "unicode/utf8.acceptRanges"], apart := false, laid := [("unicode/utf8.acceptRanges", laid_unicode_utf8_acceptRanges), ("quadrille/knot.quarter", laid_quadrille_knot_quarter), ("unicode/utf8.first", laid_unicode_utf8_first)] }
def BlockPlaysSaid : Prop := blockPlaysRow.holds Tryd.pinned (OpenSpec.ofChange blockPlaysSpec)

/-- ITS FALSE NEIGHBOUR: 'it returns false'. Refute it at one input. -/
def blockPlaysWrong : ChangeSpec := { name := "blockPlays", fn := fun _ => fun
  | [d1, d2, d3] => { results := [.lit (.bool false)], args := [d1, d2, d3] }
  | _ => none }
def BlockPlaysWrongFalsely : Prop := blockPlaysRow.holds Tryd.pinned (OpenSpec.ofChange blockPlaysWrong)

/-- 'quadrillelaw06.BlockRoots': WHATEVER THE INPUT: true; the input reads as it did. -/
def blockRootsSpec : ChangeSpec := { name := "blockRoots", fn := fun _ => fun
  | [d1, d2, d3, d4] => { results := [.lit (.bool true)], args := [d1, d2, d3, d4] }
  | _ => none }
def blockRootsRow : OpenClaim := { program := "ytkaidbfpgdfpfaadoor", sum := "34633702efe411a26494e0ef3fd0cf34841da6d382f02087c8d25e76d49c5fd8", func := "quadrille/quadrillelaw06.BlockRoots", spec := "blockRoots", named := ["quadrille/knot.quarter", "unicode/utf8.first", "unicode/utf8.acceptRanges"], apart := false, laid := [("unicode/utf8.acceptRanges", laid_unicode_utf8_acceptRanges), ("quadrille/knot.quarter", laid_quadrille_knot_quarter), ("unicode/utf8.first", laid_unicode_utf8_first)] }
def BlockRootsSaid : Prop := blockRootsRow.holds Tryd.pinned (OpenSpec.ofChange blockRootsSpec)

/-- ITS FALSE NEIGHBOUR: 'it returns false'. Refute it at one input. -/
def blockRootsWrong : ChangeSpec := { name := "blockRoots", fn := fun _ => fun
  | [d1, d2, d3, d4] => { results := [.lit (.bool false)], args := [d1, d2, d3, d4] }
  | _ => none }
def BlockRootsWrongFalsely : Prop := blockRootsRow.holds Tryd.pinned (OpenSpec.ofChange blockRootsWrong)

/- THE SECOND FORM. 'bulk': how many values and letters a reading holds, each counted each time it is reached (what is shared counts as often as it is met; a slice's spare places count too). A statement '..UptoSaid' is the law's where the arguments, and the package variables that the reading takes, are together of bulk at most 1048576: NARROWER than '..Said'. Prove '..Said' where nothing that the law and all that it calls make is longer than what came in: it says more and counts as full. Else prove '..UptoSaid'. A law counts once. -/
mutual
def uptoBulk {H : Type} : DataW H → Nat
  | .lit (.string bytes) => bytes.length + 1
  | .lit _ => 1
  | .nil => 1
  | .ptr d => uptoBulk d + 1
  | .slice elems spare => uptoBulkAll elems + uptoBulkAll spare + 1
  | .agg parts => uptoBulkAll parts + 1
  | .iface _ d => uptoBulk d + 1
  | .map entries => uptoBulkEntries entries + 1
  | .held _ => 1
def uptoBulkAll {H : Type} : List (DataW H) → Nat
  | [] => 0
  | d :: r => uptoBulk d + uptoBulkAll r
def uptoBulkEntries {H : Type} : List (Lit × DataW H) → Nat
  | [] => 0
  | x :: r => uptoBulkEntry x + uptoBulkEntries r
def uptoBulkEntry {H : Type} : Lit × DataW H → Nat
  | (.string bytes, d) => bytes.length + uptoBulk d + 1
  | (_, d) => uptoBulk d + 1
 end
def uptoSmall : (H : Type) → List (DataW H) → Bool := fun _ ds => decide (uptoBulkAll ds ≤ 1048576)
def OpenSpec.upto (s : _root_.Go.ChangeSpec) : _root_.Go.OpenSpec := { _root_.Go.OpenSpec.ofChange s with cond := some uptoSmall }

/-- 'quadrillelaw06.BlockReads', WHERE WHAT IT READS IS OF BULK AT MOST 1048576: true; the input reads as it did. -/
def blockReadsUptoRow : OpenClaim := { program := "ytkaidbfpgdfpfaadoor", sum := "34633702efe411a26494e0ef3fd0cf34841da6d382f02087c8d25e76d49c5fd8", func := "quadrille/quadrillelaw06.BlockReads", spec := "blockReads", named := ["quadrille/knot.quarter", "unicode/utf8.first", "unicode/utf8.acceptRanges"], apart := false, laid := [("unicode/utf8.acceptRanges", laid_unicode_utf8_acceptRanges), ("quadrille/knot.quarter", laid_quadrille_knot_quarter), ("unicode/utf8.first", laid_unicode_utf8_first)], narrowed := true }
def BlockReadsUptoSaid : Prop := blockReadsUptoRow.holds Tryd.pinned (OpenSpec.upto blockReadsSpec)

/-- 'quadrillelaw06.BlockMaps', WHERE WHAT IT READS IS OF BULK AT MOST 1048576: true; the input reads as it did. -/
def blockMapsUptoRow : OpenClaim := { program := "ytkaidbfpgdfpfaadoor", sum := "34633702efe411a26494e0ef3fd0cf34841da6d382f02087c8d25e76d49c5fd8", func := "quadrille/quadrillelaw06.BlockMaps", spec := "blockMaps", named := ["quadrille/knot.quarter", "unicode/utf8.first", "unicode/utf8.acceptRanges"], apart := false, laid := [("unicode/utf8.acceptRanges", laid_unicode_utf8_acceptRanges), ("quadrille/knot.quarter", laid_quadrille_knot_quarter), ("unicode/utf8.first", laid_unicode_utf8_first)], narrowed := true }
def BlockMapsUptoSaid : Prop := blockMapsUptoRow.holds Tryd.pinned (OpenSpec.upto blockMapsSpec)

/-- 'quadrillelaw06.BlockApart', WHERE WHAT IT READS IS OF BULK AT MOST 1048576: true; the input reads as it did. -/
def blockApartUptoRow : OpenClaim := { program := "ytkaidbfpgdfpfaadoor", sum := "34633702efe411a26494e0ef3fd0cf34841da6d382f02087c8d25e76d49c5fd8", func := "quadrille/quadrillelaw06.BlockApart", spec := "blockApart", named := ["quadrille/knot.quarter", "unicode/utf8.first", "unicode/utf8.acceptRanges"], apart := false, laid := [("unicode/utf8.acceptRanges", laid_unicode_utf8_acceptRanges), ("quadrille/knot.quarter", laid_quadrille_knot_quarter), ("unicode/utf8.first", laid_unicode_utf8_first)], narrowed := true }
def BlockApartUptoSaid : Prop := blockApartUptoRow.holds Tryd.pinned (OpenSpec.upto blockApartSpec)

/-- 'quadrillelaw06.BlockTurned', WHERE WHAT IT READS IS OF BULK AT MOST 1048576: true; the input reads as it did. -/
def blockTurnedUptoRow : OpenClaim := { program := "ytkaidbfpgdfpfaadoor", sum := "34633702efe411a26494e0ef3fd0cf34841da6d382f02087c8d25e76d49c5fd8", func := "quadrille/quadrillelaw06.BlockTurned", spec := "blockTurned", named := ["quadrille/knot.quarter", "unicode/utf8.first", "unicode/utf8.acceptRanges"], apart := false, laid := [("unicode/utf8.acceptRanges", laid_unicode_utf8_acceptRanges), ("quadrille/knot.quarter", laid_quadrille_knot_quarter), ("unicode/utf8.first", laid_unicode_utf8_first)], narrowed := true }
def BlockTurnedUptoSaid : Prop := blockTurnedUptoRow.holds Tryd.pinned (OpenSpec.upto blockTurnedSpec)

/-- 'quadrillelaw06.BlockPlays', WHERE WHAT IT READS IS OF BULK AT MOST 1048576: true; the input reads as it did. -/
def blockPlaysUptoRow : OpenClaim := { program := "ytkaidbfpgdfpfaadoor", sum := "34633702efe411a26494e0ef3fd0cf34841da6d382f02087c8d25e76d49c5fd8", func := "quadrille/quadrillelaw06.BlockPlays", spec := "blockPlays", named := ["quadrille/knot.quarter", "unicode/utf8.first", "unicode/utf8.acceptRanges"], apart := false, laid := [("unicode/utf8.acceptRanges", laid_unicode_utf8_acceptRanges), ("quadrille/knot.quarter", laid_quadrille_knot_quarter), ("unicode/utf8.first", laid_unicode_utf8_first)], narrowed := true }
def BlockPlaysUptoSaid : Prop := blockPlaysUptoRow.holds Tryd.pinned (OpenSpec.upto blockPlaysSpec)

/-- 'quadrillelaw06.BlockRoots', WHERE WHAT IT READS IS OF BULK AT MOST 1048576: true; the input reads as it did. -/
def blockRootsUptoRow : OpenClaim := { program := "ytkaidbfpgdfpfaadoor", sum := "34633702efe411a26494e0ef3fd0cf34841da6d382f02087c8d25e76d49c5fd8", func := "quadrille/quadrillelaw06.BlockRoots", spec := "blockRoots", named := ["quadrille/knot.quarter", "unicode/utf8.first", "unicode/utf8.acceptRanges"], apart := false, laid := [("unicode/utf8.acceptRanges", laid_unicode_utf8_acceptRanges), ("quadrille/knot.quarter", laid_quadrille_knot_quarter), ("unicode/utf8.first", laid_unicode_utf8_first)], narrowed := true }
def BlockRootsUptoSaid : Prop := blockRootsUptoRow.holds Tryd.pinned (OpenSpec.upto blockRootsSpec)

end Rows
end Go.Proofs.YtkaidbfpgdfpfaaDoor
