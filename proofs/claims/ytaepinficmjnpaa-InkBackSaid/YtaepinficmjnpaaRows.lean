/-
  No cell of these rows narrows 'for every input' (looked for: loops, veiled, ifaces, maps, wideKeys, modest, calm, conditions, laid).
  DERIVED. THE GIVEN ROWS OF THIS SEAT. 6 by the template 'for every input the law returns true; each argument reads behind the call as it read before'; 0 by the template 'total and deterministic' (their statements: YtaepinficmjnpaaTotals.lean).
  GIVEN WITH THE SEED: the statements are not yours to turn. If you find one false, say at which input.
  Laid BY PROGRAM, IN A SANDBOX (cutbox-rows.mjs): the forced cells as the released guide's own fill.sh prints them over the translation 6d17dc392d259b63… (all of the seat's roots in one cut). By AI agents, Wed Nov 11 2026. No macro, syntax, notation, axiom, sorry.
-/
import Derived.Test.YtaepinficmjnpaaChecked
import GoSem.Claim
import GoSem.ClaimJoined
import GoSem.ClaimMapViews
import Derived.JoinedTies
import Derived.KernelRfl
namespace Go.Proofs.Ytaepinficmjnpaa
/- THE CELL 'sum', in the pinned program and in every row, IS THE sha256 OF THE DUMP (.gsa) THAT YtaepinficmjnpaaProg.lean LOADS. Nothing in Lean hashes anything: it is a label: what it is worth is what the hold of that sum in a sandbox is worth. -/
noncomputable def Try.pinned : Pinned := { name := "ytaepinficmjnpaa", sum := "6d17dc392d259b63cf159a60d7affdbe351817c0bdc8dd7b10fadeff430889e8", checked := Try.checked }
namespace Rows
def none {H : Type} : Left H := { results := [], args := [] }

/-- 'quadrillelaw01.InkOrder': WHATEVER THE INPUT: true; the input reads as it did. -/
def inkOrderSpec : ChangeSpec := { name := "inkOrder", fn := fun _ => fun
  | [d1, d2] => { results := [.lit (.bool true)], args := [d1, d2] }
  | _ => none }
def inkOrderRow : OpenClaim := { program := "ytaepinficmjnpaa", sum := "6d17dc392d259b63cf159a60d7affdbe351817c0bdc8dd7b10fadeff430889e8", func := "quadrille/quadrillelaw01.InkOrder", spec := "inkOrder", apart := false }
def InkOrderSaid : Prop := inkOrderRow.holds Try.pinned (OpenSpec.ofChange inkOrderSpec)

/-- ITS FALSE NEIGHBOUR: 'it returns false'. Refute it at one input. -/
def inkOrderWrong : ChangeSpec := { name := "inkOrder", fn := fun _ => fun
  | [d1, d2] => { results := [.lit (.bool false)], args := [d1, d2] }
  | _ => none }
def InkOrderWrongFalsely : Prop := inkOrderRow.holds Try.pinned (OpenSpec.ofChange inkOrderWrong)

/-- 'quadrillelaw01.InkNums': WHATEVER THE INPUT: true; the input reads as it did. -/
def inkNumsSpec : ChangeSpec := { name := "inkNums", fn := fun _ => fun
  | [d1, d2] => { results := [.lit (.bool true)], args := [d1, d2] }
  | _ => none }
def inkNumsRow : OpenClaim := { program := "ytaepinficmjnpaa", sum := "6d17dc392d259b63cf159a60d7affdbe351817c0bdc8dd7b10fadeff430889e8", func := "quadrille/quadrillelaw01.InkNums", spec := "inkNums", apart := false }
def InkNumsSaid : Prop := inkNumsRow.holds Try.pinned (OpenSpec.ofChange inkNumsSpec)

/-- ITS FALSE NEIGHBOUR: 'it returns false'. Refute it at one input. -/
def inkNumsWrong : ChangeSpec := { name := "inkNums", fn := fun _ => fun
  | [d1, d2] => { results := [.lit (.bool false)], args := [d1, d2] }
  | _ => none }
def InkNumsWrongFalsely : Prop := inkNumsRow.holds Try.pinned (OpenSpec.ofChange inkNumsWrong)

/-- 'quadrillelaw01.InkWrites': WHATEVER THE INPUT: true; the input reads as it did. -/
def inkWritesSpec : ChangeSpec := { name := "inkWrites", fn := fun _ => fun
  | [d] => { results := [.lit (.bool true)], args := [d] }
  | _ => none }
def inkWritesRow : OpenClaim := { program := "ytaepinficmjnpaa", sum := "6d17dc392d259b63cf159a60d7affdbe351817c0bdc8dd7b10fadeff430889e8", func := "quadrille/quadrillelaw01.InkWrites", spec := "inkWrites", apart := false }
def InkWritesSaid : Prop := inkWritesRow.holds Try.pinned (OpenSpec.ofChange inkWritesSpec)

/-- ITS FALSE NEIGHBOUR: 'it returns false'. Refute it at one input. -/
def inkWritesWrong : ChangeSpec := { name := "inkWrites", fn := fun _ => fun
  | [d] => { results := [.lit (.bool false)], args := [d] }
  | _ => none }
def InkWritesWrongFalsely : Prop := inkWritesRow.holds Try.pinned (OpenSpec.ofChange inkWritesWrong)

/-- 'quadrillelaw01.InkReads': WHATEVER THE INPUT: true; the input reads as it did. -/
def inkReadsSpec : ChangeSpec := { name := "inkReads", fn := fun _ => fun
  | [d1, d2] => { results := [.lit (.bool true)], args := [d1, d2] }
  | _ => none }
def inkReadsRow : OpenClaim := { program := "ytaepinficmjnpaa", sum := "6d17dc392d259b63cf159a60d7affdbe351817c0bdc8dd7b10fadeff430889e8", func := "quadrille/quadrillelaw01.InkReads", spec := "inkReads", apart := false }
def InkReadsSaid : Prop := inkReadsRow.holds Try.pinned (OpenSpec.ofChange inkReadsSpec)

/-- ITS FALSE NEIGHBOUR: 'it returns false'. Refute it at one input. -/
def inkReadsWrong : ChangeSpec := { name := "inkReads", fn := fun _ => fun
  | [d1, d2] => { results := [.lit (.bool false)], args := [d1, d2] }
  | _ => none }
def InkReadsWrongFalsely : Prop := inkReadsRow.holds Try.pinned (OpenSpec.ofChange inkReadsWrong)

/-- 'quadrillelaw01.InkBack': WHATEVER THE INPUT: true; the input reads as it did. -/
def inkBackSpec : ChangeSpec := { name := "inkBack", fn := fun _ => fun
  | [d] => { results := [.lit (.bool true)], args := [d] }
  | _ => none }
def inkBackRow : OpenClaim := { program := "ytaepinficmjnpaa", sum := "6d17dc392d259b63cf159a60d7affdbe351817c0bdc8dd7b10fadeff430889e8", func := "quadrille/quadrillelaw01.InkBack", spec := "inkBack", apart := false }
def InkBackSaid : Prop := inkBackRow.holds Try.pinned (OpenSpec.ofChange inkBackSpec)

/-- ITS FALSE NEIGHBOUR: 'it returns false'. Refute it at one input. -/
def inkBackWrong : ChangeSpec := { name := "inkBack", fn := fun _ => fun
  | [d] => { results := [.lit (.bool false)], args := [d] }
  | _ => none }
def InkBackWrongFalsely : Prop := inkBackRow.holds Try.pinned (OpenSpec.ofChange inkBackWrong)

/-- 'quadrillelaw01.InkNil': WHATEVER THE INPUT: true; the input reads as it did. -/
def inkNilSpec : ChangeSpec := { name := "inkNil", fn := fun _ => fun
  | [d1, d2] => { results := [.lit (.bool true)], args := [d1, d2] }
  | _ => none }
def inkNilRow : OpenClaim := { program := "ytaepinficmjnpaa", sum := "6d17dc392d259b63cf159a60d7affdbe351817c0bdc8dd7b10fadeff430889e8", func := "quadrille/quadrillelaw01.InkNil", spec := "inkNil", apart := false }
def InkNilSaid : Prop := inkNilRow.holds Try.pinned (OpenSpec.ofChange inkNilSpec)

/-- ITS FALSE NEIGHBOUR: 'it returns false'. Refute it at one input. -/
def inkNilWrong : ChangeSpec := { name := "inkNil", fn := fun _ => fun
  | [d1, d2] => { results := [.lit (.bool false)], args := [d1, d2] }
  | _ => none }
def InkNilWrongFalsely : Prop := inkNilRow.holds Try.pinned (OpenSpec.ofChange inkNilWrong)

/- THE SECOND FORM. 'bulk': how many values and letters a reading holds, each counted each time it is reached (what is shared counts as often as it is met; a slice's spare places count too). A statement '..UptoSaid' is the law's where the arguments, and the package variables that the reading takes, are together of bulk at most 1048576: NARROWER than '..Said'. Prove '..Said' where nothing that the law and all that it calls make is longer than what came in: it says more and counts as full. Else prove '..UptoSaid'. A law counts once. -/
mutual
def uptoBulk {H : Type} : DataW H → Nat
  | .lit (.string bytes) => bytes.length + 1
  | .lit _ => 1
  | .nil => 1
  | .ptr d => uptoBulk d + 1
  | .slice elems spare => uptoBulkAll elems + uptoBulkAll spare + 1
  | .agg parts => uptoBulkAll parts + 1
  | .iface _ d => uptoBulk d + 1
  | .map entries => uptoBulkEntries entries + 1
  | .held _ => 1
def uptoBulkAll {H : Type} : List (DataW H) → Nat
  | [] => 0
  | d :: r => uptoBulk d + uptoBulkAll r
def uptoBulkEntries {H : Type} : List (Lit × DataW H) → Nat
  | [] => 0
  | x :: r => uptoBulkEntry x + uptoBulkEntries r
def uptoBulkEntry {H : Type} : Lit × DataW H → Nat
  | (.string bytes, d) => bytes.length + uptoBulk d + 1
  | (_, d) => uptoBulk d + 1
 end
def uptoSmall : (H : Type) → List (DataW H) → Bool := fun _ ds => decide (uptoBulkAll ds ≤ 1048576)
def OpenSpec.upto (s : _root_.Go.ChangeSpec) : _root_.Go.OpenSpec := { _root_.Go.OpenSpec.ofChange s with cond := some uptoSmall }

/-- 'quadrillelaw01.InkOrder', WHERE WHAT IT READS IS OF BULK AT MOST 1048576: true; the input reads as it did. -/
def inkOrderUptoRow : OpenClaim := { program := "ytaepinficmjnpaa", sum := "6d17dc392d259b63cf159a60d7affdbe351817c0bdc8dd7b10fadeff430889e8", func := "quadrille/quadrillelaw01.InkOrder", spec := "inkOrder", apart := false, narrowed := true }
def InkOrderUptoSaid : Prop := inkOrderUptoRow.holds Try.pinned (OpenSpec.upto inkOrderSpec)

/-- 'quadrillelaw01.InkNums', WHERE WHAT IT READS IS OF BULK AT MOST 1048576: true; the input reads as it did. -/
def inkNumsUptoRow : OpenClaim := { program := "ytaepinficmjnpaa", sum := "6d17dc392d259b63cf159a60d7affdbe351817c0bdc8dd7b10fadeff430889e8", func := "quadrille/quadrillelaw01.InkNums", spec := "inkNums", apart := false, narrowed := true }
def InkNumsUptoSaid : Prop := inkNumsUptoRow.holds Try.pinned (OpenSpec.upto inkNumsSpec)

/-- 'quadrillelaw01.InkWrites', WHERE WHAT IT READS IS OF BULK AT MOST 1048576: true; the input reads as it did. -/
def inkWritesUptoRow : OpenClaim := { program := "ytaepinficmjnpaa", sum := "6d17dc392d259b63cf159a60d7affdbe351817c0bdc8dd7b10fadeff430889e8", func := "quadrille/quadrillelaw01.InkWrites", spec := "inkWrites", apart := false, narrowed := true }
def InkWritesUptoSaid : Prop := inkWritesUptoRow.holds Try.pinned (OpenSpec.upto inkWritesSpec)

/-- 'quadrillelaw01.InkReads', WHERE WHAT IT READS IS OF BULK AT MOST 1048576: true; the input reads as it did. -/
def inkReadsUptoRow : OpenClaim := { program := "ytaepinficmjnpaa", sum := "6d17dc392d259b63cf159a60d7affdbe351817c0bdc8dd7b10fadeff430889e8", func := "quadrille/quadrillelaw01.InkReads", spec := "inkReads", apart := false, narrowed := true }
def InkReadsUptoSaid : Prop := inkReadsUptoRow.holds Try.pinned (OpenSpec.upto inkReadsSpec)

/-- 'quadrillelaw01.InkBack', WHERE WHAT IT READS IS OF BULK AT MOST 1048576: true; the input reads as it did. -/
def inkBackUptoRow : OpenClaim := { program := "ytaepinficmjnpaa", sum := "6d17dc392d259b63cf159a60d7affdbe351817c0bdc8dd7b10fadeff430889e8", func := "quadrille/quadrillelaw01.InkBack", spec := "inkBack", apart := false, narrowed := true }
def InkBackUptoSaid : Prop := inkBackUptoRow.holds Try.pinned (OpenSpec.upto inkBackSpec)

/-- 'quadrillelaw01.InkNil', WHERE WHAT IT READS IS OF BULK AT MOST 1048576: true; the input reads as it did. -/
def inkNilUptoRow : OpenClaim := { program := "ytaepinficmjnpaa", sum := "6d17dc392d259b63cf159a60d7affdbe351817c0bdc8dd7b10fadeff430889e8", func := "quadrille/quadrillelaw01.InkNil", spec := "inkNil", apart := false, narrowed := true }
def InkNilUptoSaid : Prop := inkNilUptoRow.holds Try.pinned (OpenSpec.upto inkNilSpec)

end Rows
end Go.Proofs.Ytaepinficmjnpaa
