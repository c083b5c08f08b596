/- The walks of layer 4: which notes are right. -/
import Derived.Test.YtombndhjoaaaiaaDoorNoteMath
namespace Go.Proofs.YtombndhjoaaaiaaDoor
open Go.RowKit Go.Quad _root_.Quad _root_.Quad.Ink

theorem plain_calls (c : Int) (w : World) :
    Calls Tryd.prog 79 #[.int .i64 c] w fun e w' => e = .returned (.bool (decide (0 ≤ c) && decide (c ≤ 2147483647))) ∧ w = w' := by
  by_cases h : 0 ≤ c
  · by_cases h2 : c ≤ 2147483647
    · go_enter Tryd.func79, Tryd.ntmps79
      go_wp2_with fail
      go_ret
      exact ⟨by simp [h, h2], rfl⟩
    · go_enter Tryd.func79, Tryd.ntmps79
      go_wp2_with fail
      go_ret
      exact ⟨by simp [h2], rfl⟩
  · go_enter Tryd.func79, Tryd.ntmps79
    go_wp2_with fail
    go_ret
    exact ⟨by simp [Int.not_le.2 h], rfl⟩

def fieldsV (k : Nat) : List Value := [.bool (fNode k), .bool (fEpoch k), .bool (fLife k), .bool (fTick k), .bool (fGen k), .bool (fJob k), .bool (fVer k), .bool (fRank k), .bool (fCredit k), .bool (fFrom k), .bool (fTo k), .bool (fBlob k)]

def OfTo (k : Nat) (w : World) (e : Ending) (w' : World) : Prop := e = .returned (.tuple #[.agg (fieldsV k).toArray, .bool (fOk k)]) ∧ Below w.heap.size w w'

/-- a note's value -/
def noteV (n : NoteD) (v : Value) : List Value := [.int .u8 (n.kind : Int), .int .u8 (n.node : Int), .int .u32 (n.epoch : Int), .int .u32 (n.life : Int), .int .u32 (n.tick : Int), .int .u32 (n.gen : Int), .int .u32 (n.job : Int), .int .u32 (n.ver : Int), .int .u8 (n.rank : Int), .int .i64 n.credit, .int .u32 (n.frm : Int), .int .u32 (n.til : Int), v]

theorem noteV_get (n : NoteD) (v : Value) : noteV n v = [.int .u8 (n.kind : Int), .int .u8 (n.node : Int), .int .u32 (n.epoch : Int), .int .u32 (n.life : Int), .int .u32 (n.tick : Int), .int .u32 (n.gen : Int), .int .u32 (n.job : Int), .int .u32 (n.ver : Int), .int .u8 (n.rank : Int), .int .i64 n.credit, .int .u32 (n.frm : Int), .int .u32 (n.til : Int), v] := rfl

def Said (b : Bool) (w : World) (e : Ending) (w' : World) : Prop := e = .returned (.bool b) ∧ Below w.heap.size w w'

end Go.Proofs.YtombndhjoaaaiaaDoor
