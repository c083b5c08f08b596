/- The walks of layer 4: notes, requests, replies and packets read. -/
import Derived.Test.YtmmcmldcbdaooaaDoorNoteG
import Derived.Deep.Cut
import Derived.Deep.CutRange
namespace Go.Proofs.YtmmcmldcbdaooaaDoor
open Go.RowKit Go.Quad _root_.Quad _root_.Quad.Ink

theorem intS_range (s : St) : -9223372036854775808 ≤ ((intS s).1 : Int) ∧ ((intS s).1 : Int) ≤ 9223372036854775807 := by
  unfold intS
  split
  · simp
  · omega
theorem untieL_len (l : List UInt8) : (untieL l).1.length ≤ l.length := by
  unfold untieL
  split
  · split
    · simp
    · unfold nextL
      split
      · simp
      · split
        · simp
        · split
          · simp
          · split
            · simp; omega
            · simp
  · simp
theorem numS_lt' (s : St) : ((numS s).1 : Int) ≤ 18446744073709551615 := by have := numS_lt s; omega
end Go.Proofs.YtmmcmldcbdaooaaDoor
