/- What is left of a region whose guards all say no: moved over at once. -/
import Derived.Test.YtmmcmldcbdaooaaDoorLib
namespace Go.Quad
open Go.RowKit

/-- the frame behind the rest of a region in which only moves and picks are wanted -/
def skipTail (ops : Array Oper) : List Oper → Act → Option Act
  | [], a => some a
  | o :: r, a =>
    match Region.wanted o (yielded ops a.tmps) with
    | false => skipTail ops r (a.put o.dst undef)
    | true =>
      match o.op with
      | .move x => skipTail ops r (a.put o.dst (a.eval x))
      | .assign x => skipTail ops r (a.put o.dst (a.eval x))
      | .pick c x y => match a.eval c with
        | .bool true => skipTail ops r (a.put o.dst (a.eval x))
        | .bool false => skipTail ops r (a.put o.dst (a.eval y))
        | _ => none
      | _ => none

theorem wpList_skipTail {P : Program} {ops : Array Oper} {Q : Exit → Act → World → Prop} {w : World} : ∀ {rest : List Oper} {a a' : Act}, skipTail ops rest a = some a' → Q .normal a' w → wpList P ops Q rest a w
  | [], a, a', h, hq => by
    cases h
    exact hq
  | o :: r, a, a', h, hq => by
    unfold skipTail at h
    split at h
    · rename_i hw
      unfold wpList
      rw [if_neg (by rw [hw]; simp)]
      exact wpList_skipTail h hq
    · rename_i hw
      split at h
      · rename_i x ho
        refine wpList_by (fun v w' => v = a.eval x ∧ w' = w) hw ⟨_, _, ?_, rfl, rfl⟩ (by rintro v w' ⟨rfl, rfl⟩; exact wpList_skipTail h hq)
        simp only [execOp, ho, Sem.run_pure]
      · rename_i x ho
        refine wpList_by (fun v w' => v = a.eval x ∧ w' = w) hw ⟨_, _, ?_, rfl, rfl⟩ (by rintro v w' ⟨rfl, rfl⟩; exact wpList_skipTail h hq)
        simp only [execOp, ho, Sem.run_pure]
      · rename_i c x y ho
        split at h
        · rename_i hc
          refine wpList_by (fun v w' => v = a.eval x ∧ w' = w) hw ⟨_, _, ?_, rfl, rfl⟩ (by rintro v w' ⟨rfl, rfl⟩; exact wpList_skipTail h hq)
          simp only [execOp, ho, hc, Sem.run_bind, Sem.run_pure]
          simp [asBool, Result.andThen]
        · rename_i hc
          refine wpList_by (fun v w' => v = a.eval y ∧ w' = w) hw ⟨_, _, ?_, rfl, rfl⟩ (by rintro v w' ⟨rfl, rfl⟩; exact wpList_skipTail h hq)
          simp only [execOp, ho, hc, Sem.run_bind, Sem.run_pure]
          simp [asBool, Result.andThen]
        · cases h
      · cases h

theorem wpList_skip' {P : Program} {ops : Array Oper} {Q : Exit → Act → World → Prop} {w : World} {rest : List Oper} {a : Act} (hs : (skipTail ops rest a).isSome = true) (h : Q .normal ((skipTail ops rest a).getD a) w) : wpList P ops Q rest a w := by
  obtain ⟨a', ha⟩ := Option.isSome_iff_exists.1 hs
  exact wpList_skipTail ha (by rw [ha] at h; exact h)
end Go.Quad
