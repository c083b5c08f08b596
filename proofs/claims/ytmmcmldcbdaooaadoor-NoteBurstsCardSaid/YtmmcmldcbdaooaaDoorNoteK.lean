/- Fields cut short, several in one statement: how far it has come. -/
import Derived.Test.YtmmcmldcbdaooaaDoorNoteJ
import Derived.Test.YtmmcmldcbdaooaaDoorDraws
import Derived.Deep.QuietTactic
import Derived.BigQuiet
namespace Go.Proofs.YtmmcmldcbdaooaaDoor
open Go.RowKit Go.Quad _root_.Quad _root_.Quad.Ink

/-- blocks, each with what it held and what it is to hold: the first p are stored -/
def CutSt (L : List (Nat × List Value × List Value × TypeId)) (B : Nat) (W : World) (p : Nat) (w : World) : Prop :=
  (∀ j e, L[j]? = some e → Blk w e.1 (if j < p then e.2.2.1 else e.2.1) e.2.2.2) ∧ Below B W w ∧ B ≤ w.heap.size

theorem CutSt.below {L : List (Nat × List Value × List Value × TypeId)} {B : Nat} {W : World} {p : Nat} {w w' : World} (h : CutSt L B W p w) (hb : Below w.heap.size w w') : CutSt L B W p w' :=
  ⟨fun j e he => (h.1 j e he).below hb, h.2.1.trans (hb.mono h.2.2), Nat.le_trans h.2.2 hb.size⟩

theorem CutSt.next {L : List (Nat × List Value × List Value × TypeId)} {B : Nat} {W : World} {p : Nat} {w : World} (h : CutSt L B W p w) (g : Nat) (old new : List Value) (t : TypeId) (i : Nat) (v : Value) (he : L[p]? = some (g, old, new, t)) (hn : new = old.set i v) (hg : B ≤ g) (hd : ∀ j e, L[j]? = some e → j ≠ p → e.1 ≠ g) :
    CutSt L B W (p + 1) (w.setCell ⟨g, i, none⟩ v) := by
  have hc := chg_setCell w g i v
  refine ⟨fun j e hj => ?_, h.2.1.trans (hc.below h.2.2 (by simp; omega)), Nat.le_trans h.2.2 hc.size⟩
  by_cases hjp : j = p
  · subst hjp
    rw [he] at hj
    cases hj
    have := h.1 j _ he
    rw [if_neg (by omega)] at this
    rw [if_pos (by omega), hn]
    exact this.set i v
  · have := (h.1 j e hj).keep hc (by have := hd j e hj hjp; simpa using this)
    have e1 : (if j < p + 1 then e.2.2.1 else e.2.1) = (if j < p then e.2.2.1 else e.2.1) := by
      by_cases hlt : j < p
      · rw [if_pos hlt, if_pos (by omega)]
      · rw [if_neg hlt, if_neg (by omega)]
    rw [e1]
    exact this

theorem run_bytes_at' (w : World) (g i : Nat) (v : Value) (h : w.cell? ⟨g, i, none⟩ = some v) : (Instr.loadAt 23 (.pointer (some ⟨g, i, none⟩))).run Tryd.prog w = .ok v w := by go_simp
theorem run_store_bytes' (w : World) (g i : Nat) (u : Value) (a : Option Addr) (n c : Nat) (h : w.cell? ⟨g, i, none⟩ = some u) (hf : w.frozen? ⟨g, i, none⟩ = false) :
    (Instr.storeAt 23 (.pointer (some ⟨g, i, none⟩)) (.slice a n c)).run Tryd.prog w = .ok () (w.setCell ⟨g, i, none⟩ (.slice a n c)) := by go_simp

theorem nmin100 (n : Nat) : (if (100 : Int) < (n : Int) then 100 else (n : Int)) = ((min n 100 : Nat) : Int) := by split <;> omega
theorem nmin1100 (n : Nat) : (if (1100 : Int) < (n : Int) then 1100 else (n : Int)) = ((min n 1100 : Nat) : Int) := by split <;> omega
theorem nmin2100 (n : Nat) : (if (2100 : Int) < (n : Int) then 2100 else (n : Int)) = ((min n 2100 : Nat) : Int) := by split <;> omega
theorem nmin400 (n : Nat) : (if (400 : Int) < (n : Int) then 400 else (n : Int)) = ((min n 400 : Nat) : Int) := by split <;> omega
theorem nmin300 (n : Nat) : (if (300 : Int) < (n : Int) then 300 else (n : Int)) = ((min n 300 : Nat) : Int) := by split <;> omega
end Go.Proofs.YtmmcmldcbdaooaaDoor
