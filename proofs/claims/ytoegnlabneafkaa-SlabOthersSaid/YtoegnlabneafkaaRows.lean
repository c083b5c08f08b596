/-
  No cell of these rows narrows 'for every input' (looked for: loops, veiled, ifaces, maps, wideKeys, modest, calm, conditions, laid).
  DERIVED. THE GIVEN ROWS OF THIS SEAT. 5 by the template 'for every input the law returns true; each argument reads behind the call as it read before'; 0 by the template 'total and deterministic' (their statements: YtoegnlabneafkaaTotals.lean).
  GIVEN WITH THE SEED: the statements are not yours to turn. If you find one false, say at which input.
  Laid BY PROGRAM, IN A SANDBOX (cutbox-rows.mjs): the forced cells as the released guide's own fill.sh prints them over the translation 23d85978c1b1ee72… (all of the seat's roots in one cut). By AI agents, Wed Nov 11 2026. No macro, syntax, notation, axiom, sorry.
-/
import Derived.Test.YtoegnlabneafkaaChecked
import GoSem.Claim
import GoSem.ClaimJoined
import GoSem.ClaimMapViews
import Derived.JoinedTies
import Derived.KernelRfl
namespace Go.Proofs.Ytoegnlabneafkaa
/- THE CELL 'sum', in the pinned program and in every row, IS THE sha256 OF THE DUMP (.gsa) THAT YtoegnlabneafkaaProg.lean LOADS. Nothing in Lean hashes anything: it is a label: what it is worth is what the hold of that sum in a sandbox is worth. -/
noncomputable def Try.pinned : Pinned := { name := "ytoegnlabneafkaa", sum := "23d85978c1b1ee72134434bf606732894fbc991850cdec11b5b7368bd9132a5e", checked := Try.checked }
namespace Rows
def none {H : Type} : Left H := { results := [], args := [] }

/-- 'quadrillelaw05.SlabTears': WHATEVER THE INPUT: true; the input reads as it did. -/
def slabTearsSpec : ChangeSpec := { name := "slabTears", fn := fun _ => fun
  | [d1, d2, d3, d4] => { results := [.lit (.bool true)], args := [d1, d2, d3, d4] }
  | _ => none }
def slabTearsRow : OpenClaim := { program := "ytoegnlabneafkaa", sum := "23d85978c1b1ee72134434bf606732894fbc991850cdec11b5b7368bd9132a5e", func := "quadrille/quadrillelaw05.SlabTears", spec := "slabTears", apart := false }
def SlabTearsSaid : Prop := slabTearsRow.holds Try.pinned (OpenSpec.ofChange slabTearsSpec)

/-- ITS FALSE NEIGHBOUR: 'it returns false'. Refute it at one input. -/
def slabTearsWrong : ChangeSpec := { name := "slabTears", fn := fun _ => fun
  | [d1, d2, d3, d4] => { results := [.lit (.bool false)], args := [d1, d2, d3, d4] }
  | _ => none }
def SlabTearsWrongFalsely : Prop := slabTearsRow.holds Try.pinned (OpenSpec.ofChange slabTearsWrong)

/-- 'quadrillelaw05.SlabOthers': WHATEVER THE INPUT: true; the input reads as it did. -/
def slabOthersSpec : ChangeSpec := { name := "slabOthers", fn := fun _ => fun
  | [d1, d2, d3] => { results := [.lit (.bool true)], args := [d1, d2, d3] }
  | _ => none }
def slabOthersRow : OpenClaim := { program := "ytoegnlabneafkaa", sum := "23d85978c1b1ee72134434bf606732894fbc991850cdec11b5b7368bd9132a5e", func := "quadrille/quadrillelaw05.SlabOthers", spec := "slabOthers", apart := false }
def SlabOthersSaid : Prop := slabOthersRow.holds Try.pinned (OpenSpec.ofChange slabOthersSpec)

/-- ITS FALSE NEIGHBOUR: 'it returns false'. Refute it at one input. -/
def slabOthersWrong : ChangeSpec := { name := "slabOthers", fn := fun _ => fun
  | [d1, d2, d3] => { results := [.lit (.bool false)], args := [d1, d2, d3] }
  | _ => none }
def SlabOthersWrongFalsely : Prop := slabOthersRow.holds Try.pinned (OpenSpec.ofChange slabOthersWrong)

/-- 'quadrillelaw05.SlabFlushes': WHATEVER THE INPUT: true; the input reads as it did. -/
def slabFlushesSpec : ChangeSpec := { name := "slabFlushes", fn := fun _ => fun
  | [d1, d2, d3, d4] => { results := [.lit (.bool true)], args := [d1, d2, d3, d4] }
  | _ => none }
def slabFlushesRow : OpenClaim := { program := "ytoegnlabneafkaa", sum := "23d85978c1b1ee72134434bf606732894fbc991850cdec11b5b7368bd9132a5e", func := "quadrille/quadrillelaw05.SlabFlushes", spec := "slabFlushes", apart := false }
def SlabFlushesSaid : Prop := slabFlushesRow.holds Try.pinned (OpenSpec.ofChange slabFlushesSpec)

/-- ITS FALSE NEIGHBOUR: 'it returns false'. Refute it at one input. -/
def slabFlushesWrong : ChangeSpec := { name := "slabFlushes", fn := fun _ => fun
  | [d1, d2, d3, d4] => { results := [.lit (.bool false)], args := [d1, d2, d3, d4] }
  | _ => none }
def SlabFlushesWrongFalsely : Prop := slabFlushesRow.holds Try.pinned (OpenSpec.ofChange slabFlushesWrong)

/-- 'quadrillelaw05.SlabArms': WHATEVER THE INPUT: true; the input reads as it did. -/
def slabArmsSpec : ChangeSpec := { name := "slabArms", fn := fun _ => fun
  | [d1, d2] => { results := [.lit (.bool true)], args := [d1, d2] }
  | _ => none }
def slabArmsRow : OpenClaim := { program := "ytoegnlabneafkaa", sum := "23d85978c1b1ee72134434bf606732894fbc991850cdec11b5b7368bd9132a5e", func := "quadrille/quadrillelaw05.SlabArms", spec := "slabArms", unfollowed := true, recurses := true, apart := false }
def SlabArmsSaid : Prop := slabArmsRow.holds Try.pinned (OpenSpec.ofChange slabArmsSpec)

/-- ITS FALSE NEIGHBOUR: 'it returns false'. Refute it at one input. -/
def slabArmsWrong : ChangeSpec := { name := "slabArms", fn := fun _ => fun
  | [d1, d2] => { results := [.lit (.bool false)], args := [d1, d2] }
  | _ => none }
def SlabArmsWrongFalsely : Prop := slabArmsRow.holds Try.pinned (OpenSpec.ofChange slabArmsWrong)

/-- 'quadrillelaw05.SlabPlays': WHATEVER THE INPUT: true; the input reads as it did. -/
def slabPlaysSpec : ChangeSpec := { name := "slabPlays", fn := fun _ => fun
  | [d1, d2] => { results := [.lit (.bool true)], args := [d1, d2] }
  | _ => none }
def slabPlaysRow : OpenClaim := { program := "ytoegnlabneafkaa", sum := "23d85978c1b1ee72134434bf606732894fbc991850cdec11b5b7368bd9132a5e", func := "quadrille/quadrillelaw05.SlabPlays", spec := "slabPlays", apart := false }
def SlabPlaysSaid : Prop := slabPlaysRow.holds Try.pinned (OpenSpec.ofChange slabPlaysSpec)

/-- ITS FALSE NEIGHBOUR: 'it returns false'. Refute it at one input. -/
def slabPlaysWrong : ChangeSpec := { name := "slabPlays", fn := fun _ => fun
  | [d1, d2] => { results := [.lit (.bool false)], args := [d1, d2] }
  | _ => none }
def SlabPlaysWrongFalsely : Prop := slabPlaysRow.holds Try.pinned (OpenSpec.ofChange slabPlaysWrong)

/- THE SECOND FORM. 'bulk': how many values and letters a reading holds, each counted each time it is reached (what is shared counts as often as it is met; a slice's spare places count too). A statement '..UptoSaid' is the law's where the arguments, and the package variables that the reading takes, are together of bulk at most 1048576: NARROWER than '..Said'. Prove '..Said' where nothing that the law and all that it calls make is longer than what came in: it says more and counts as full. Else prove '..UptoSaid'. A law counts once. -/
mutual
def uptoBulk {H : Type} : DataW H → Nat
  | .lit (.string bytes) => bytes.length + 1
  | .lit _ => 1
  | .nil => 1
  | .ptr d => uptoBulk d + 1
  | .slice elems spare => uptoBulkAll elems + uptoBulkAll spare + 1
  | .agg parts => uptoBulkAll parts + 1
  | .iface _ d => uptoBulk d + 1
  | .map entries => uptoBulkEntries entries + 1
  | .held _ => 1
def uptoBulkAll {H : Type} : List (DataW H) → Nat
  | [] => 0
  | d :: r => uptoBulk d + uptoBulkAll r
def uptoBulkEntries {H : Type} : List (Lit × DataW H) → Nat
  | [] => 0
  | x :: r => uptoBulkEntry x + uptoBulkEntries r
def uptoBulkEntry {H : Type} : Lit × DataW H → Nat
  | (.string bytes, d) => bytes.length + uptoBulk d + 1
  | (_, d) => uptoBulk d + 1
 end
def uptoSmall : (H : Type) → List (DataW H) → Bool := fun _ ds => decide (uptoBulkAll ds ≤ 1048576)
def OpenSpec.upto (s : _root_.Go.ChangeSpec) : _root_.Go.OpenSpec := { _root_.Go.OpenSpec.ofChange s with cond := some uptoSmall }

/-- 'quadrillelaw05.SlabTears', WHERE WHAT IT READS IS OF BULK AT MOST 1048576: true; the input reads as it did. -/
def slabTearsUptoRow : OpenClaim := { program := "ytoegnlabneafkaa", sum := "23d85978c1b1ee72134434bf606732894fbc991850cdec11b5b7368bd9132a5e", func := "quadrille/quadrillelaw05.SlabTears", spec := "slabTears", apart := false, narrowed := true }
def SlabTearsUptoSaid : Prop := slabTearsUptoRow.holds Try.pinned (OpenSpec.upto slabTearsSpec)

/-- 'quadrillelaw05.SlabOthers', WHERE WHAT IT READS IS OF BULK AT MOST 1048576: true; the input reads as it did. -/
def slabOthersUptoRow : OpenClaim := { program := "ytoegnlabneafkaa", sum := "23d85978c1b1ee72134434bf606732894fbc991850cdec11b5b7368bd9132a5e", func := "quadrille/quadrillelaw05.SlabOthers", spec := "slabOthers", apart := false, narrowed := true }
def SlabOthersUptoSaid : Prop := slabOthersUptoRow.holds Try.pinned (OpenSpec.upto slabOthersSpec)

/-- 'quadrillelaw05.SlabFlushes', WHERE WHAT IT READS IS OF BULK AT MOST 1048576: true; the input reads as it did. -/
def slabFlushesUptoRow : OpenClaim := { program := "ytoegnlabneafkaa", sum := "23d85978c1b1ee72134434bf606732894fbc991850cdec11b5b7368bd9132a5e", func := "quadrille/quadrillelaw05.SlabFlushes", spec := "slabFlushes", apart := false, narrowed := true }
def SlabFlushesUptoSaid : Prop := slabFlushesUptoRow.holds Try.pinned (OpenSpec.upto slabFlushesSpec)

/-- 'quadrillelaw05.SlabArms', WHERE WHAT IT READS IS OF BULK AT MOST 1048576: true; the input reads as it did. -/
def slabArmsUptoRow : OpenClaim := { program := "ytoegnlabneafkaa", sum := "23d85978c1b1ee72134434bf606732894fbc991850cdec11b5b7368bd9132a5e", func := "quadrille/quadrillelaw05.SlabArms", spec := "slabArms", unfollowed := true, recurses := true, apart := false, narrowed := true }
def SlabArmsUptoSaid : Prop := slabArmsUptoRow.holds Try.pinned (OpenSpec.upto slabArmsSpec)

/-- 'quadrillelaw05.SlabPlays', WHERE WHAT IT READS IS OF BULK AT MOST 1048576: true; the input reads as it did. -/
def slabPlaysUptoRow : OpenClaim := { program := "ytoegnlabneafkaa", sum := "23d85978c1b1ee72134434bf606732894fbc991850cdec11b5b7368bd9132a5e", func := "quadrille/quadrillelaw05.SlabPlays", spec := "slabPlays", apart := false, narrowed := true }
def SlabPlaysUptoSaid : Prop := slabPlaysUptoRow.holds Try.pinned (OpenSpec.upto slabPlaysSpec)

end Rows
end Go.Proofs.Ytoegnlabneafkaa
