/-
  NARROWER THAN 'FOR EVERY INPUT', by the rows' own cells (each row's printed sentence says how): ImageNewest: laid · ImageOpens: laid · ImageApart: laid · ImageRoom: laid · ScrollOpens: laid · ScrollEpochs: laid · ScrollRoom: laid · ScrollSnaps: laid.
  DERIVED. THE GIVEN ROWS OF THIS SEAT. 8 by the template 'for every input the law returns true; each argument reads behind the call as it read before'; 0 by the template 'total and deterministic' (their statements: YtoapibbbooongaaDoorTotals.lean).
  GIVEN WITH THE SEED: the statements are not yours to turn. If you find one false, say at which input.
  Laid BY PROGRAM, IN A SANDBOX (cutbox-rows.mjs): the forced cells as the released guide's own fill.sh prints them over the translation be6fcc800ad78948… (all of the seat's roots in one cut). By AI agents, Wed Nov 11 2026. No macro, syntax, notation, axiom, sorry.
-/
import Derived.Test.YtoapibbbooongaaDoorChecked
import GoSem.PinnedTables
import GoSem.Claim
import GoSem.ClaimJoined
import GoSem.ClaimMapViews
import Derived.JoinedTies
import Derived.KernelRfl
namespace Go.Proofs.YtoapibbbooongaaDoor
/- THE CELL 'sum', in the pinned program and in every row, IS THE sha256 OF THE DUMP (.gsa) THAT YtoapibbbooongaaDoorProg.lean LOADS. Nothing in Lean hashes anything: it is a label: what it is worth is what the hold of that sum in a sandbox is worth. -/
noncomputable def Tryd.pinned : Pinned := { name := "ytoapibbbooongaadoor", sum := "be6fcc800ad78948670c233c196ed25ef90b5809b8de16dd9396ebcfc9343b23", checked := Tryd.checked }
namespace Rows
def none {H : Type} : Left H := { results := [], args := [] }

/- WHAT THE LISTED PACKAGE-LEVEL VARIABLES READ AS WHEN THE CALL BEGINS. Each datum BY PROGRAM (the guide's laid-datum.mjs) off the statement by which the dump's own 'gosem.cut.vars' lays the variable. In a bare row this is a premise. The card (YtoapibbbooongaaDoorCards.lean) ties it to the program's text. -/
def laid_unicode_utf8_acceptRanges {H : Type} : DataW H := .agg [.agg [.lit (.int .u8 128), .lit (.int .u8 191)], .agg [.lit (.int .u8 160), .lit (.int .u8 191)], .agg [.lit (.int .u8 128), .lit (.int .u8 159)], .agg [.lit (.int .u8 144), .lit (.int .u8 191)], .agg [.lit (.int .u8 128), .lit (.int .u8 143)], .agg [.lit (.int .u8 0), .lit (.int .u8 0)], .agg [.lit (.int .u8 0), .lit (.int .u8 0)], .agg [.lit (.int .u8 0), .lit (.int .u8 0)], .agg [.lit (.int .u8 0), .lit (.int .u8 0)], .agg [.lit (.int .u8 0), .lit (.int .u8 0)], .agg [.lit (.int .u8 0), .lit (.int .u8 0)], .agg [.lit (.int .u8 0), .lit (.int .u8 0)], .agg [.lit (.int .u8 0), .lit (.int .u8 0)], .agg [.lit (.int .u8 0), .lit (.int .u8 0)], .agg [.lit (.int .u8 0), .lit (.int .u8 0)], .agg [.lit (.int .u8 0), .lit (.int .u8 0)]]
def laid_quadrille_knot_quarter {H : Type} : DataW H := .agg [.lit (.int .u32 0), .lit (.int .u32 274646895), .lit (.int .u32 549293790), .lit (.int .u32 820201905), .lit (.int .u32 1098587580), .lit (.int .u32 1361435347), .lit (.int .u32 1640403810), .lit (.int .u32 1905808397), .lit (.int .u32 2197175160), .lit (.int .u32 2460548119), .lit (.int .u32 2722870694), .lit (.int .u32 2987750089), .lit (.int .u32 3280807620), .lit (.int .u32 3553878443), .lit (.int .u32 3811616794), .lit (.int .u32 4084100981)]
/-- One of Go's own tables, pinned by name: the form's constant. -/
def laid_unicode_utf8_first : DataW Unit := Go.Pinned.utf8First

/-- 'quadrillelaw08.ImageNewest': WHATEVER THE INPUT: true; the input reads as it did. -/
def imageNewestSpec : ChangeSpec := { name := "imageNewest", fn := fun _ => fun
  | [d] => { results := [.lit (.bool true)], args := [d] }
  | _ => none }
def imageNewestRow : OpenClaim := { program := "ytoapibbbooongaadoor", sum := "be6fcc800ad78948670c233c196ed25ef90b5809b8de16dd9396ebcfc9343b23", func := "quadrille/quadrillelaw08.ImageNewest", spec := "imageNewest", unfollowed := true, recurses := true, named := ["quadrille/knot.quarter", "unicode/utf8.first", "unicode/utf8.acceptRanges"], apart := false, laid := [("unicode/utf8.acceptRanges", laid_unicode_utf8_acceptRanges), ("quadrille/knot.quarter", laid_quadrille_knot_quarter), ("unicode/utf8.first", laid_unicode_utf8_first)] }
def ImageNewestSaid : Prop := imageNewestRow.holds Tryd.pinned (OpenSpec.ofChange imageNewestSpec)

/-- ITS FALSE NEIGHBOUR: 'it returns false'. Refute it at one input. -/
def imageNewestWrong : ChangeSpec := { name := "imageNewest", fn := fun _ => fun
  | [d] => { results := [.lit (.bool false)], args := [d] }
  | _ => none }
def ImageNewestWrongFalsely : Prop := imageNewestRow.holds Tryd.pinned (OpenSpec.ofChange imageNewestWrong)

/-- 'quadrillelaw08.ImageOpens': WHATEVER THE INPUT: true; the input reads as it did. -/
def imageOpensSpec : ChangeSpec := { name := "imageOpens", fn := fun _ => fun
  | [d] => { results := [.lit (.bool true)], args := [d] }
  | _ => none }
def imageOpensRow : OpenClaim := { program := "ytoapibbbooongaadoor", sum := "be6fcc800ad78948670c233c196ed25ef90b5809b8de16dd9396ebcfc9343b23", func := "quadrille/quadrillelaw08.ImageOpens", spec := "imageOpens", unfollowed := true, recurses := true, named := ["quadrille/knot.quarter", "unicode/utf8.first", "unicode/utf8.acceptRanges"], apart := false, laid := [("unicode/utf8.acceptRanges", laid_unicode_utf8_acceptRanges), ("quadrille/knot.quarter", laid_quadrille_knot_quarter), ("unicode/utf8.first", laid_unicode_utf8_first)] }
def ImageOpensSaid : Prop := imageOpensRow.holds Tryd.pinned (OpenSpec.ofChange imageOpensSpec)

/-- ITS FALSE NEIGHBOUR: 'it returns false'. Refute it at one input. -/
def imageOpensWrong : ChangeSpec := { name := "imageOpens", fn := fun _ => fun
  | [d] => { results := [.lit (.bool false)], args := [d] }
  | _ => none }
def ImageOpensWrongFalsely : Prop := imageOpensRow.holds Tryd.pinned (OpenSpec.ofChange imageOpensWrong)

/-- 'quadrillelaw08.ImageApart': WHATEVER THE INPUT: true; the input reads as it did. -/
def imageApartSpec : ChangeSpec := { name := "imageApart", fn := fun _ => fun
  | [d1, d2, d3] => { results := [.lit (.bool true)], args := [d1, d2, d3] }
  | _ => none }
def imageApartRow : OpenClaim := { program := "ytoapibbbooongaadoor", sum := "be6fcc800ad78948670c233c196ed25ef90b5809b8de16dd9396ebcfc9343b23", func := "quadrille/quadrillelaw08.ImageApart", spec := "imageApart", unfollowed := true, recurses := true, named := ["quadrille/knot.quarter", "unicode/utf8.first", "unicode/utf8.acceptRanges"], apart := false, laid := [("unicode/utf8.acceptRanges", laid_unicode_utf8_acceptRanges), ("quadrille/knot.quarter", laid_quadrille_knot_quarter), ("unicode/utf8.first", laid_unicode_utf8_first)] }
def ImageApartSaid : Prop := imageApartRow.holds Tryd.pinned (OpenSpec.ofChange imageApartSpec)

/-- ITS FALSE NEIGHBOUR: 'it returns false'. Refute it at one input. -/
def imageApartWrong : ChangeSpec := { name := "imageApart", fn := fun _ => fun
  | [d1, d2, d3] => { results := [.lit (.bool false)], args := [d1, d2, d3] }
  | _ => none }
def ImageApartWrongFalsely : Prop := imageApartRow.holds Tryd.pinned (OpenSpec.ofChange imageApartWrong)

/-- 'quadrillelaw08.ImageRoom': WHATEVER THE INPUT: true; the input reads as it did. -/
def imageRoomSpec : ChangeSpec := { name := "imageRoom", fn := fun _ => fun
  | [d1, d2, d3] => { results := [.lit (.bool true)], args := [d1, d2, d3] }
  | _ => none }
def imageRoomRow : OpenClaim := { program := "ytoapibbbooongaadoor", sum := "be6fcc800ad78948670c233c196ed25ef90b5809b8de16dd9396ebcfc9343b23", func := "quadrille/quadrillelaw08.ImageRoom", spec := "imageRoom", unfollowed := true, recurses := true, named := ["quadrille/knot.quarter", "unicode/utf8.first", "unicode/utf8.acceptRanges"], apart := false, laid := [("unicode/utf8.acceptRanges", laid_unicode_utf8_acceptRanges), ("quadrille/knot.quarter", laid_quadrille_knot_quarter), ("unicode/utf8.first", laid_unicode_utf8_first)] }
def ImageRoomSaid : Prop := imageRoomRow.holds Tryd.pinned (OpenSpec.ofChange imageRoomSpec)

/-- ITS FALSE NEIGHBOUR: 'it returns false'. Refute it at one input. -/
def imageRoomWrong : ChangeSpec := { name := "imageRoom", fn := fun _ => fun
  | [d1, d2, d3] => { results := [.lit (.bool false)], args := [d1, d2, d3] }
  | _ => none }
def ImageRoomWrongFalsely : Prop := imageRoomRow.holds Tryd.pinned (OpenSpec.ofChange imageRoomWrong)

/-- 'quadrillelaw07.ScrollOpens': WHATEVER THE INPUT: true; the input reads as it did. -/
def scrollOpensSpec : ChangeSpec := { name := "scrollOpens", fn := fun _ => fun
  | [d] => { results := [.lit (.bool true)], args := [d] }
  | _ => none }
def scrollOpensRow : OpenClaim := { program := "ytoapibbbooongaadoor", sum := "be6fcc800ad78948670c233c196ed25ef90b5809b8de16dd9396ebcfc9343b23", func := "quadrille/quadrillelaw07.ScrollOpens", spec := "scrollOpens", unfollowed := true, recurses := true, named := ["quadrille/knot.quarter", "unicode/utf8.first", "unicode/utf8.acceptRanges"], apart := false, laid := [("unicode/utf8.acceptRanges", laid_unicode_utf8_acceptRanges), ("quadrille/knot.quarter", laid_quadrille_knot_quarter), ("unicode/utf8.first", laid_unicode_utf8_first)] }
def ScrollOpensSaid : Prop := scrollOpensRow.holds Tryd.pinned (OpenSpec.ofChange scrollOpensSpec)

/-- ITS FALSE NEIGHBOUR: 'it returns false'. Refute it at one input. -/
def scrollOpensWrong : ChangeSpec := { name := "scrollOpens", fn := fun _ => fun
  | [d] => { results := [.lit (.bool false)], args := [d] }
  | _ => none }
def ScrollOpensWrongFalsely : Prop := scrollOpensRow.holds Tryd.pinned (OpenSpec.ofChange scrollOpensWrong)

/-- 'quadrillelaw07.ScrollEpochs': WHATEVER THE INPUT: true; the input reads as it did. -/
def scrollEpochsSpec : ChangeSpec := { name := "scrollEpochs", fn := fun _ => fun
  | [d] => { results := [.lit (.bool true)], args := [d] }
  | _ => none }
def scrollEpochsRow : OpenClaim := { program := "ytoapibbbooongaadoor", sum := "be6fcc800ad78948670c233c196ed25ef90b5809b8de16dd9396ebcfc9343b23", func := "quadrille/quadrillelaw07.ScrollEpochs", spec := "scrollEpochs", unfollowed := true, recurses := true, named := ["quadrille/knot.quarter", "unicode/utf8.first", "unicode/utf8.acceptRanges"], apart := false, laid := [("unicode/utf8.acceptRanges", laid_unicode_utf8_acceptRanges), ("quadrille/knot.quarter", laid_quadrille_knot_quarter), ("unicode/utf8.first", laid_unicode_utf8_first)] }
def ScrollEpochsSaid : Prop := scrollEpochsRow.holds Tryd.pinned (OpenSpec.ofChange scrollEpochsSpec)

/-- ITS FALSE NEIGHBOUR: 'it returns false'. Refute it at one input. -/
def scrollEpochsWrong : ChangeSpec := { name := "scrollEpochs", fn := fun _ => fun
  | [d] => { results := [.lit (.bool false)], args := [d] }
  | _ => none }
def ScrollEpochsWrongFalsely : Prop := scrollEpochsRow.holds Tryd.pinned (OpenSpec.ofChange scrollEpochsWrong)

/-- 'quadrillelaw07.ScrollRoom': WHATEVER THE INPUT: true; the input reads as it did. -/
def scrollRoomSpec : ChangeSpec := { name := "scrollRoom", fn := fun _ => fun
  | [d1, d2] => { results := [.lit (.bool true)], args := [d1, d2] }
  | _ => none }
def scrollRoomRow : OpenClaim := { program := "ytoapibbbooongaadoor", sum := "be6fcc800ad78948670c233c196ed25ef90b5809b8de16dd9396ebcfc9343b23", func := "quadrille/quadrillelaw07.ScrollRoom", spec := "scrollRoom", unfollowed := true, recurses := true, named := ["quadrille/knot.quarter", "unicode/utf8.first", "unicode/utf8.acceptRanges"], apart := false, laid := [("unicode/utf8.acceptRanges", laid_unicode_utf8_acceptRanges), ("quadrille/knot.quarter", laid_quadrille_knot_quarter), ("unicode/utf8.first", laid_unicode_utf8_first)] }
def ScrollRoomSaid : Prop := scrollRoomRow.holds Tryd.pinned (OpenSpec.ofChange scrollRoomSpec)

/-- ITS FALSE NEIGHBOUR: 'it returns false'. Refute it at one input. -/
def scrollRoomWrong : ChangeSpec := { name := "scrollRoom", fn := fun _ => fun
  | [d1, d2] => { results := [.lit (.bool false)], args := [d1, d2] }
  | _ => none }
def ScrollRoomWrongFalsely : Prop := scrollRoomRow.holds Tryd.pinned (OpenSpec.ofChange scrollRoomWrong)

/-- 'quadrillelaw07.ScrollSnaps': WHATEVER THE INPUT: true; the input reads as it did. -/
def scrollSnapsSpec : ChangeSpec := { name := "scrollSnaps", fn := fun _ => fun
  | [d1, d2] => { results := [.lit (.bool true)], args := [d1, d2] }
  | _ => none }
def scrollSnapsRow : OpenClaim := { program := "ytoapibbbooongaadoor", sum := "be6fcc800ad78948670c233c196ed25ef90b5809b8de16dd9396ebcfc9343b23", func := "quadrille/quadrillelaw07.ScrollSnaps", spec := "scrollSnaps", unfollowed := true, recurses := true, named := ["quadrille/knot.quarter", "unicode/utf8.first", "unicode/utf8.acceptRanges"], apart := false, laid := [("unicode/utf8.acceptRanges", laid_unicode_utf8_acceptRanges), ("quadrille/knot.quarter", laid_quadrille_knot_quarter), ("unicode/utf8.first", laid_unicode_utf8_first)] }
def ScrollSnapsSaid : Prop := scrollSnapsRow.holds Tryd.pinned (OpenSpec.ofChange scrollSnapsSpec)

/-- ITS FALSE NEIGHBOUR: 'it returns false'. Refute it at one input. -/
def scrollSnapsWrong : ChangeSpec := { name := "scrollSnaps", fn := fun _ => fun
  | [d1, d2] => { results := [.lit (.bool false)], args := [d1, d2] }
  | _ => none }
def ScrollSnapsWrongFalsely : Prop := scrollSnapsRow.holds Tryd.pinned (OpenSpec.ofChange scrollSnapsWrong)

/- THE SECOND FORM. 'bulk': how many values and letters a reading holds, each counted each time it is reached (what is shared counts as often as it is met; a slice's spare places count too). A statement '..UptoSaid' is the law's where the arguments, and the package variables that the reading takes, are together of bulk at most 1048576: NARROWER than '..Said'. Prove '..Said' where nothing that the law and all that it calls make is longer than what came in: it says more and counts as full. Else prove '..UptoSaid'. A law counts once. -/
mutual
def uptoBulk {H : Type} : DataW H → Nat
  | .lit (.string bytes) => bytes.length + 1
  | .lit _ => 1
  | .nil => 1
  | .ptr d => uptoBulk d + 1
  | .slice elems spare => uptoBulkAll elems + uptoBulkAll spare + 1
  | .agg parts => uptoBulkAll parts + 1
  | .iface _ d => uptoBulk d + 1
  | .map entries => uptoBulkEntries entries + 1
  | .held _ => 1
def uptoBulkAll {H : Type} : List (DataW H) → Nat
  | [] => 0
  | d :: r => uptoBulk d + uptoBulkAll r
def uptoBulkEntries {H : Type} : List (Lit × DataW H) → Nat
  | [] => 0
  | x :: r => uptoBulkEntry x + uptoBulkEntries r
def uptoBulkEntry {H : Type} : Lit × DataW H → Nat
  | (.string bytes, d) => bytes.length + uptoBulk d + 1
  | (_, d) => uptoBulk d + 1
 end
def uptoSmall : (H : Type) → List (DataW H) → Bool := fun _ ds => decide (uptoBulkAll ds ≤ 1048576)
def OpenSpec.upto (s : _root_.Go.ChangeSpec) : _root_.Go.OpenSpec := { _root_.Go.OpenSpec.ofChange s with cond := some uptoSmall }

/-- 'quadrillelaw08.ImageNewest', WHERE WHAT IT READS IS OF BULK AT MOST 1048576: true; the input reads as it did. -/
def imageNewestUptoRow : OpenClaim := { program := "ytoapibbbooongaadoor", sum := "be6fcc800ad78948670c233c196ed25ef90b5809b8de16dd9396ebcfc9343b23", func := "quadrille/quadrillelaw08.ImageNewest", spec := "imageNewest", unfollowed := true, recurses := true, named := ["quadrille/knot.quarter", "unicode/utf8.first", "unicode/utf8.acceptRanges"], apart := false, laid := [("unicode/utf8.acceptRanges", laid_unicode_utf8_acceptRanges), ("quadrille/knot.quarter", laid_quadrille_knot_quarter), ("unicode/utf8.first", laid_unicode_utf8_first)], narrowed := true }
def ImageNewestUptoSaid : Prop := imageNewestUptoRow.holds Tryd.pinned (OpenSpec.upto imageNewestSpec)

/-- 'quadrillelaw08.ImageOpens', WHERE WHAT IT READS IS OF BULK AT MOST 1048576: true; the input reads as it did. -/
def imageOpensUptoRow : OpenClaim := { program := "ytoapibbbooongaadoor", sum := "be6fcc800ad78948670c233c196ed25ef90b5809b8de16dd9396ebcfc9343b23", func := "quadrille/quadrillelaw08.ImageOpens", spec := "imageOpens", unfollowed := true, recurses := true, named := ["quadrille/knot.quarter", "unicode/utf8.first", "unicode/utf8.acceptRanges"], apart := false, laid := [("unicode/utf8.acceptRanges", laid_unicode_utf8_acceptRanges), ("quadrille/knot.quarter", laid_quadrille_knot_quarter), ("unicode/utf8.first", laid_unicode_utf8_first)], narrowed := true }
def ImageOpensUptoSaid : Prop := imageOpensUptoRow.holds Tryd.pinned (OpenSpec.upto imageOpensSpec)

/-- 'quadrillelaw08.ImageApart', WHERE WHAT IT READS IS OF BULK AT MOST 1048576: true; the input reads as it did. -/
def imageApartUptoRow : OpenClaim := { program := "ytoapibbbooongaadoor", sum := "be6fcc800ad78948670c233c196ed25ef90b5809b8de16dd9396ebcfc9343b23", func := "quadrille/quadrillelaw08.ImageApart", spec := "imageApart", unfollowed := true, recurses := true, named := ["quadrille/knot.quarter", "unicode/utf8.first", "unicode/utf8.acceptRanges"], apart := false, laid := [("unicode/utf8.acceptRanges", laid_unicode_utf8_acceptRanges), ("quadrille/knot.quarter", laid_quadrille_knot_quarter), ("unicode/utf8.first", laid_unicode_utf8_first)], narrowed := true }
def ImageApartUptoSaid : Prop := imageApartUptoRow.holds Tryd.pinned (OpenSpec.upto imageApartSpec)

/-- 'quadrillelaw08.ImageRoom', WHERE WHAT IT READS IS OF BULK AT MOST 1048576: true; the input reads as it did. -/
def imageRoomUptoRow : OpenClaim := { program := "ytoapibbbooongaadoor", sum := "be6fcc800ad78948670c233c196ed25ef90b5809b8de16dd9396ebcfc9343b23", func := "quadrille/quadrillelaw08.ImageRoom", spec := "imageRoom", unfollowed := true, recurses := true, named := ["quadrille/knot.quarter", "unicode/utf8.first", "unicode/utf8.acceptRanges"], apart := false, laid := [("unicode/utf8.acceptRanges", laid_unicode_utf8_acceptRanges), ("quadrille/knot.quarter", laid_quadrille_knot_quarter), ("unicode/utf8.first", laid_unicode_utf8_first)], narrowed := true }
def ImageRoomUptoSaid : Prop := imageRoomUptoRow.holds Tryd.pinned (OpenSpec.upto imageRoomSpec)

/-- 'quadrillelaw07.ScrollOpens', WHERE WHAT IT READS IS OF BULK AT MOST 1048576: true; the input reads as it did. -/
def scrollOpensUptoRow : OpenClaim := { program := "ytoapibbbooongaadoor", sum := "be6fcc800ad78948670c233c196ed25ef90b5809b8de16dd9396ebcfc9343b23", func := "quadrille/quadrillelaw07.ScrollOpens", spec := "scrollOpens", unfollowed := true, recurses := true, named := ["quadrille/knot.quarter", "unicode/utf8.first", "unicode/utf8.acceptRanges"], apart := false, laid := [("unicode/utf8.acceptRanges", laid_unicode_utf8_acceptRanges), ("quadrille/knot.quarter", laid_quadrille_knot_quarter), ("unicode/utf8.first", laid_unicode_utf8_first)], narrowed := true }
def ScrollOpensUptoSaid : Prop := scrollOpensUptoRow.holds Tryd.pinned (OpenSpec.upto scrollOpensSpec)

/-- 'quadrillelaw07.ScrollEpochs', WHERE WHAT IT READS IS OF BULK AT MOST 1048576: true; the input reads as it did. -/
def scrollEpochsUptoRow : OpenClaim := { program := "ytoapibbbooongaadoor", sum := "be6fcc800ad78948670c233c196ed25ef90b5809b8de16dd9396ebcfc9343b23", func := "quadrille/quadrillelaw07.ScrollEpochs", spec := "scrollEpochs", unfollowed := true, recurses := true, named := ["quadrille/knot.quarter", "unicode/utf8.first", "unicode/utf8.acceptRanges"], apart := false, laid := [("unicode/utf8.acceptRanges", laid_unicode_utf8_acceptRanges), ("quadrille/knot.quarter", laid_quadrille_knot_quarter), ("unicode/utf8.first", laid_unicode_utf8_first)], narrowed := true }
def ScrollEpochsUptoSaid : Prop := scrollEpochsUptoRow.holds Tryd.pinned (OpenSpec.upto scrollEpochsSpec)

/-- 'quadrillelaw07.ScrollRoom', WHERE WHAT IT READS IS OF BULK AT MOST 1048576: true; the input reads as it did. -/
def scrollRoomUptoRow : OpenClaim := { program := "ytoapibbbooongaadoor", sum := "be6fcc800ad78948670c233c196ed25ef90b5809b8de16dd9396ebcfc9343b23", func := "quadrille/quadrillelaw07.ScrollRoom", spec := "scrollRoom", unfollowed := true, recurses := true, named := ["quadrille/knot.quarter", "unicode/utf8.first", "unicode/utf8.acceptRanges"], apart := false, laid := [("unicode/utf8.acceptRanges", laid_unicode_utf8_acceptRanges), ("quadrille/knot.quarter", laid_quadrille_knot_quarter), ("unicode/utf8.first", laid_unicode_utf8_first)], narrowed := true }
def ScrollRoomUptoSaid : Prop := scrollRoomUptoRow.holds Tryd.pinned (OpenSpec.upto scrollRoomSpec)

/-- 'quadrillelaw07.ScrollSnaps', WHERE WHAT IT READS IS OF BULK AT MOST 1048576: true; the input reads as it did. -/
def scrollSnapsUptoRow : OpenClaim := { program := "ytoapibbbooongaadoor", sum := "be6fcc800ad78948670c233c196ed25ef90b5809b8de16dd9396ebcfc9343b23", func := "quadrille/quadrillelaw07.ScrollSnaps", spec := "scrollSnaps", unfollowed := true, recurses := true, named := ["quadrille/knot.quarter", "unicode/utf8.first", "unicode/utf8.acceptRanges"], apart := false, laid := [("unicode/utf8.acceptRanges", laid_unicode_utf8_acceptRanges), ("quadrille/knot.quarter", laid_quadrille_knot_quarter), ("unicode/utf8.first", laid_unicode_utf8_first)], narrowed := true }
def ScrollSnapsUptoSaid : Prop := scrollSnapsUptoRow.holds Tryd.pinned (OpenSpec.upto scrollSnapsSpec)

end Rows
end Go.Proofs.YtoapibbbooongaaDoor
