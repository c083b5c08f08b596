/- What is left of a region whose guards all say no: moved over at once. (Several texts in one: Skip, RowOps.) -/
import Derived.Test.YtoapibbbooongaaDoorLib
import Derived.Test.YtoapibbbooongaaDoorDraws

/- What is left of a region whose guards all say no: moved over at once. -/
namespace Go.Quad
open Go.RowKit

/-- the frame behind the rest of a region in which only moves and picks are wanted -/
def skipTail (ops : Array Oper) : List Oper → Act → Option Act
  | [], a => some a
  | o :: r, a =>
    match Region.wanted o (yielded ops a.tmps) with
    | false => skipTail ops r (a.put o.dst undef)
    | true =>
      match o.op with
      | .move x => skipTail ops r (a.put o.dst (a.eval x))
      | .assign x => skipTail ops r (a.put o.dst (a.eval x))
      | .pick c x y => match a.eval c with
        | .bool true => skipTail ops r (a.put o.dst (a.eval x))
        | .bool false => skipTail ops r (a.put o.dst (a.eval y))
        | _ => none
      | _ => none

theorem wpList_skipTail {P : Program} {ops : Array Oper} {Q : Exit → Act → World → Prop} {w : World} : ∀ {rest : List Oper} {a a' : Act}, skipTail ops rest a = some a' → Q .normal a' w → wpList P ops Q rest a w
  | [], a, a', h, hq => by
    cases h
    exact hq
  | o :: r, a, a', h, hq => by
    unfold skipTail at h
    split at h
    · rename_i hw
      unfold wpList
      rw [if_neg (by rw [hw]; simp)]
      exact wpList_skipTail h hq
    · rename_i hw
      split at h
      · rename_i x ho
        refine wpList_by (fun v w' => v = a.eval x ∧ w' = w) hw ⟨_, _, ?_, rfl, rfl⟩ (by rintro v w' ⟨rfl, rfl⟩; exact wpList_skipTail h hq)
        simp only [execOp, ho, Sem.run_pure]
      · rename_i x ho
        refine wpList_by (fun v w' => v = a.eval x ∧ w' = w) hw ⟨_, _, ?_, rfl, rfl⟩ (by rintro v w' ⟨rfl, rfl⟩; exact wpList_skipTail h hq)
        simp only [execOp, ho, Sem.run_pure]
      · rename_i c x y ho
        split at h
        · rename_i hc
          refine wpList_by (fun v w' => v = a.eval x ∧ w' = w) hw ⟨_, _, ?_, rfl, rfl⟩ (by rintro v w' ⟨rfl, rfl⟩; exact wpList_skipTail h hq)
          simp only [execOp, ho, hc, Sem.run_bind, Sem.run_pure]
          simp [asBool, Result.andThen]
        · rename_i hc
          refine wpList_by (fun v w' => v = a.eval y ∧ w' = w) hw ⟨_, _, ?_, rfl, rfl⟩ (by rintro v w' ⟨rfl, rfl⟩; exact wpList_skipTail h hq)
          simp only [execOp, ho, hc, Sem.run_bind, Sem.run_pure]
          simp [asBool, Result.andThen]
        · cases h
      · cases h

theorem wpList_skip' {P : Program} {ops : Array Oper} {Q : Exit → Act → World → Prop} {w : World} {rest : List Oper} {a : Act} (hs : (skipTail ops rest a).isSome = true) (h : Q .normal ((skipTail ops rest a).getD a) w) : wpList P ops Q rest a w := by
  obtain ⟨a', ha⟩ := Option.isSome_iff_exists.1 hs
  exact wpList_skipTail ha (by rw [ha] at h; exact h)
end Go.Quad

/- Blocks known whole: loaded, stored, returned. -/
namespace Go.Quad
open Go.RowKit

theorem Blk.range {w : World} {g : Nat} {cs : List Value} {t : TypeId} (h : Blk w g cs t) : w.rangeAt g 0 cs := fun i v hv => by
  rw [Nat.zero_add]; exact Blk.get h i hv

theorem wpList_load_blk {P : Program} {w : World} {ops : Array Oper} {rest : List Oper} {o : Oper} {ac : Act} {Q : Exit → Act → World → Prop}
    (t : TypeId) (x : Operand) (ho : o.op = .load t x) (hw : Region.wanted o (yielded ops ac.tmps) = true) (g : Nat) (cs : List Value) (e : TypeId) (hx : ac.eval x = .pointer (some ⟨g, 0, none⟩)) (hB : Blk w g cs e)
    (hu : ∃ d, P.underlying t = some d ∧ d.isRow = true) (hi : (P.info? t).map (·.size) = some cs.length)
    (hK : wpList P ops Q rest (ac.put o.dst (.agg cs.toArray)) w) : wpList P ops Q (o :: rest) ac w := by
  obtain ⟨d, h1, h2⟩ := hu
  have hr := run_loadAt_mid (P := P) w g 0 t cs d hB.range h1 h2 hi
  refine wpList_by (fun v w' => v = .agg cs.toArray ∧ w' = w) hw ⟨_, _, ?_, rfl, rfl⟩ (by rintro v w' ⟨rfl, rfl⟩; exact hK)
  simp only [execOp, ho, hx, Sem.run_bind, hr, Result.andThen_ok, Sem.run_pure]

theorem wpList_by_skip {P : Program} {w w' : World} {ops : Array Oper} {rest : List Oper} {o : Oper} {a : Act} {Q : Exit → Act → World → Prop}
    (hw : Region.wanted o (yielded ops a.tmps) = true) (h : (execOp a.eval o).run P w = .ok .skip w')
    (hK : wpList P ops Q rest (a.put o.dst undef) w') : wpList P ops Q (o :: rest) a w := by
  unfold wpList
  rw [if_pos hw]
  left
  unfold Oper.wp
  rw [h]
  exact hK

theorem wpList_store_blk {P : Program} {w : World} {ops : Array Oper} {rest : List Oper} {o : Oper} {ac : Act} {Q : Exit → Act → World → Prop}
    (t : TypeId) (x y : Operand) (ho : o.op = .store t x y) (hw : Region.wanted o (yielded ops ac.tmps) = true) (g : Nat) (cur cs : List Value) (e : TypeId) (hx : ac.eval x = .pointer (some ⟨g, 0, none⟩)) (hy : ac.eval y = .agg cs.toArray)
    (hB : Blk w g cur e) (hl : cs.length = cur.length) (hi : (P.info? t).map (·.size) = some cs.length) (h1 : ∀ u ∈ cs, u.oneCell' = true)
    (hK : ∀ w', Blk w' g cs e → Chg [g] w w' → wpList P ops Q rest (ac.put o.dst undef) w') : wpList P ops Q (o :: rest) ac w := by
  have ht : w.there g 0 cs.toArray.size := fun j hj => by
    simp only [List.size_toArray] at hj
    exact ⟨by rw [hB.cell, List.getElem?_eq_getElem (by omega)]; rfl, hB.free _⟩
  have hr := run_storeAt_mid (P := P) w g 0 t cs.toArray ht (by simpa using hi) (by rw [Array.all_eq_true_iff_forall_mem]; simpa using h1)
  have hb := hB.setMany cs 0 _ _ (by omega)
  have e1 : splice cur 0 cs = cs := by unfold splice; simp [hl]
  rw [e1] at hb
  refine wpList_by_skip (w' := w.setCells g 0 cs) hw ?_ (hK _ hb (chg_setCells g cs 0 w))
  simp only [execOp, ho, hx, hy, Sem.run_bind, hr, Result.andThen_ok, Sem.run_pure]

theorem run_loadVar_blk {P : Program} {w : World} {g : Nat} {cs : List Value} {t e : TypeId} (hB : Blk w g cs e) (hu : ∃ d, P.underlying t = some d ∧ d.isRow = true) (hi : (P.info? t).map (·.size) = some cs.length) :
    (loadVar t ⟨g, 0, none⟩).run P w = .ok (.agg cs.toArray) w := by
  obtain ⟨d, h1, h2⟩ := hu
  exact run_loadVar_row (P := P) w g e t cs.toArray (0, 0) d (show w.heap[g]? = _ from hB) h1 (by cases d <;> simp_all [TypeDesc.isRow]) (by simpa using hi)

/-- a struct that was made, returned -/
theorem results_blk {P : Program} {w : World} {fn : Func} {p : Tmp} {ty : TypeId} (h : fn.results = #[.cell p ty]) (tmps : Array Value) (g : Nat) (cs : List Value) (e : TypeId)
    (hp : tmps.getD p undef = .pointer (some ⟨g, 0, none⟩)) (hB : Blk w g cs e) (hu : ∃ d, P.underlying ty = some d ∧ d.isRow = true) (hi : (P.info? ty).map (·.size) = some cs.length) :
    (results fn tmps).run P w = .ok (.agg cs.toArray) w := by
  have hr := run_loadVar_blk (P := P) hB hu hi
  have hp' : tmps[p]?.getD undef = .pointer (some ⟨g, 0, none⟩) := by simpa using hp
  simp [results, h, hp', asAddr, hr]

/-- and a number behind it -/
theorem results_blk2 {P : Program} {w : World} {fn : Func} {p q : Tmp} {ty : TypeId} (h : fn.results = #[.cell p ty, .tmp q]) (tmps : Array Value) (g : Nat) (cs : List Value) (e : TypeId) (v : Value)
    (hp : tmps.getD p undef = .pointer (some ⟨g, 0, none⟩)) (hq : tmps.getD q undef = v) (hB : Blk w g cs e) (hu : ∃ d, P.underlying ty = some d ∧ d.isRow = true) (hi : (P.info? ty).map (·.size) = some cs.length) :
    (results fn tmps).run P w = .ok (.tuple #[.agg cs.toArray, v]) w := by
  have hr := run_loadVar_blk (P := P) hB hu hi
  have hp' : tmps[p]?.getD undef = .pointer (some ⟨g, 0, none⟩) := by simpa using hp
  have hq' : tmps[q]?.getD undef = v := by simpa using hq
  simp [results, h, hp', hq', asAddr, hr]
end Go.Quad
