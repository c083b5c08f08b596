/- The walks of layer 4: which notes are right. -/
import Derived.Test.YtmmcmldcbdaooaaDoorNoteMath
namespace Go.Proofs.YtmmcmldcbdaooaaDoor
open Go.RowKit Go.Quad _root_.Quad _root_.Quad.Ink

theorem none_calls (n : Nat) (b : Bool) (w : World) (hn : n < 4294967296) :
    Calls Tryd.prog 74 #[.int .u32 (n : Int), .bool b] w fun e w' => e = .returned (.bool (b || n == 0)) ∧ w = w' := by
  have hh : (n : Int) ≤ 4294967295 := by omega
  clear hn
  cases b
  · by_cases h : n = 0
    · subst h
      go_enter Tryd.func74, Tryd.ntmps74
      go_wp2_with fail
      go_ret
      exact ⟨rfl, rfl⟩
    · have h' : ((n : Int) == 0) = false := by simp; omega
      have H := hid h
      clear h
      go_enter Tryd.func74, Tryd.ntmps74
      go_wp2_with fail
      go_ret
      exact ⟨by have := H.out; simp [this], rfl⟩
  · go_enter Tryd.func74, Tryd.ntmps74
    go_wp2_with fail
    go_ret
    exact ⟨rfl, rfl⟩

theorem wall_calls (c : Int) (w : World) :
    Calls Tryd.prog 73 #[.int .i64 c] w fun e w' => e = .returned (.bool (decide (0 ≤ c) && decide (c ≤ 10000))) ∧ w = w' := by
  by_cases h : 0 ≤ c
  · by_cases h2 : c ≤ 10000
    · go_enter Tryd.func73, Tryd.ntmps73
      go_wp2_with fail
      go_ret
      exact ⟨by simp [h, h2], rfl⟩
    · go_enter Tryd.func73, Tryd.ntmps73
      go_wp2_with fail
      go_ret
      exact ⟨by simp [h, h2], rfl⟩
  · go_enter Tryd.func73, Tryd.ntmps73
    go_wp2_with fail
    go_ret
    exact ⟨by simp [Int.not_le.2 h], rfl⟩

theorem plain_calls (c : Int) (w : World) :
    Calls Tryd.prog 84 #[.int .i64 c] w fun e w' => e = .returned (.bool (decide (0 ≤ c) && decide (c ≤ 2147483647))) ∧ w = w' := by
  by_cases h : 0 ≤ c
  · by_cases h2 : c ≤ 2147483647
    · go_enter Tryd.func84, Tryd.ntmps84
      go_wp2_with fail
      go_ret
      exact ⟨by simp [h, h2], rfl⟩
    · go_enter Tryd.func84, Tryd.ntmps84
      go_wp2_with fail
      go_ret
      exact ⟨by simp [h, h2], rfl⟩
  · go_enter Tryd.func84, Tryd.ntmps84
    go_wp2_with fail
    go_ret
    exact ⟨by simp [Int.not_le.2 h], rfl⟩

def fieldsV (k : Nat) : List Value := [.bool (fNode k), .bool (fEpoch k), .bool (fLife k), .bool (fTick k), .bool (fGen k), .bool (fJob k), .bool (fVer k), .bool (fRank k), .bool (fCredit k), .bool (fFrom k), .bool (fTo k), .bool (fBlob k)]

def OfTo (k : Nat) (w : World) (e : Ending) (w' : World) : Prop := e = .returned (.tuple #[.agg (fieldsV k).toArray, .bool (fOk k)]) ∧ Below w.heap.size w w'

set_option maxHeartbeats 1000000 in
theorem of_calls (k : Nat) (w : World) (hk : k < 256) : Calls Tryd.prog 72 #[.int .u8 (k : Int)] w (OfTo k w) := by
  by_cases h : 1 ≤ k ∧ k ≤ 12
  · have : k = 1 ∨ k = 2 ∨ k = 3 ∨ k = 4 ∨ k = 5 ∨ k = 6 ∨ k = 7 ∨ k = 8 ∨ k = 9 ∨ k = 10 ∨ k = 11 ∨ k = 12 := by omega
    clear h hk
    rcases this with rfl | rfl | rfl | rfl | rfl | rfl | rfl | rfl | rfl | rfl | rfl | rfl
    all_goals
      go_enter Tryd.func72, Tryd.ntmps72
      go_wp2_with fail
      refine bodyPost_ret (v := .tuple #[.agg (fieldsV _).toArray, .bool (fOk _)]) (by simp [results, Tryd.results72, go_sem, fieldsV, fNode, fEpoch, fLife, fTick, fGen, fJob, fVer, fRank, fCredit, fFrom, fTo, fBlob, fOk]) rfl ⟨rfl, below_alloc _ _⟩
  · have hi : (k : Int) ≤ 255 := by omega
    have e1 : ((k : Int) == 1) = false := by simp; omega
    have e2 : ((k : Int) == 2) = false := by simp; omega
    have e3 : ((k : Int) == 3) = false := by simp; omega
    have e4 : ((k : Int) == 4) = false := by simp; omega
    have e5 : ((k : Int) == 5) = false := by simp; omega
    have e6 : ((k : Int) == 6) = false := by simp; omega
    have e7 : ((k : Int) == 7) = false := by simp; omega
    have e8 : ((k : Int) == 8) = false := by simp; omega
    have e9 : ((k : Int) == 9) = false := by simp; omega
    have e10 : ((k : Int) == 10) = false := by simp; omega
    have e11 : ((k : Int) == 11) = false := by simp; omega
    have e12 : ((k : Int) == 12) = false := by simp; omega
    have hf : fieldsV k = List.replicate 12 (.bool false) ∧ fOk k = false := by
      have n1 : (k == 1) = false := by simp; omega
      have n2 : (k == 2) = false := by simp; omega
      have n3 : (k == 3) = false := by simp; omega
      have n4 : (k == 4) = false := by simp; omega
      have n5 : (k == 5) = false := by simp; omega
      have n6 : (k == 6) = false := by simp; omega
      have n7 : (k == 7) = false := by simp; omega
      have n8 : (k == 8) = false := by simp; omega
      have n9 : (k == 9) = false := by simp; omega
      have n10 : (k == 10) = false := by simp; omega
      have n11 : (k == 11) = false := by simp; omega
      have n12 : (k == 12) = false := by simp; omega
      simp only [fieldsV, fNode, fEpoch, fLife, fTick, fGen, fJob, fVer, fRank, fCredit, fFrom, fTo, fBlob, fOk, n1, n2, n3, n4, n5, n6, n7, n8, n9, n10, n11, n12, h, Bool.or_false, decide_false]
      exact ⟨rfl, trivial⟩
    have Hf := hid hf
    clear hf h hk
    go_enter Tryd.func72, Tryd.ntmps72
    go_wp2_with fail
    unfold OfTo
    rw [Hf.out.1, Hf.out.2]
    exact bodyPost_ret (v := .tuple #[.agg #[.bool false, .bool false, .bool false, .bool false, .bool false, .bool false, .bool false, .bool false, .bool false, .bool false, .bool false, .bool false], .bool false]) (by simp [results, Tryd.results72, go_sem]) rfl ⟨rfl, below_alloc _ _⟩

/-- a note's value -/
def noteV (n : NoteD) (v : Value) : List Value := [.int .u8 (n.kind : Int), .int .u8 (n.node : Int), .int .u32 (n.epoch : Int), .int .u32 (n.life : Int), .int .u32 (n.tick : Int), .int .u32 (n.gen : Int), .int .u32 (n.job : Int), .int .u32 (n.ver : Int), .int .u8 (n.rank : Int), .int .i64 n.credit, .int .u32 (n.frm : Int), .int .u32 (n.til : Int), v]

theorem noteV_get (n : NoteD) (v : Value) : noteV n v = [.int .u8 (n.kind : Int), .int .u8 (n.node : Int), .int .u32 (n.epoch : Int), .int .u32 (n.life : Int), .int .u32 (n.tick : Int), .int .u32 (n.gen : Int), .int .u32 (n.job : Int), .int .u32 (n.ver : Int), .int .u8 (n.rank : Int), .int .i64 n.credit, .int .u32 (n.frm : Int), .int .u32 (n.til : Int), v] := rfl

def Said (b : Bool) (w : World) (e : Ending) (w' : World) : Prop := e = .returned (.bool b) ∧ Below w.heap.size w w'

end Go.Proofs.YtmmcmldcbdaooaaDoor
