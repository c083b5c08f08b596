/- several texts (Several texts in one: SlabMath, Arr, SlabA, SlabB, SlabC, SlabD.) -/
import Derived.Test.YtoapibbbooongaaDoorLib
import Derived.Deep.MidRow
import Derived.Deep.WholeRow
import Derived.StillTailTactics
import Derived.Great.BuildSlice
import Derived.Deep.AppendLies
import Derived.Deep.RegionHeld3
import Derived.Deep.CutBlock
import Derived.Laws.CopyOwn
import Derived.Test.YtoapibbbooongaaDoorDraws

/- Plain: a slab: what is done, what is under way, the power. -/
namespace Quad.Slab

abbrev Bytes := List UInt8

structure Sl where
  done : List Bytes
  way : List (Nat × Bytes)
  off : Bool
  armed : Nat
  steps : Nat

def pad (t : Bytes) : Bytes := t ++ List.replicate (128 - t.length) 0
theorem pad_length {t : Bytes} (h : t.length ≤ 128) : (pad t).length = 128 := by simp [pad]; omega

def newL (n : Nat) : Sl := ⟨List.replicate n (List.replicate 128 0), [], false, 0, 0⟩

/-- one more; is the power still on? -/
def stepL (s : Sl) : Sl := { s with steps := s.steps + 1, armed := s.armed - 1, off := if 0 < s.armed then decide (s.armed = 1) else s.off }

/-- why there is no such sector -/
def hasL (s : Sl) (i : Int) (n : Nat) : Nat := if i < 0 ∨ (s.done.length : Int) ≤ i then 1 else if 128 < n then 3 else if s.off then 13 else 0

def writeL (s : Sl) (i : Int) (t : Bytes) : Sl × Nat :=
  if hasL s i t.length ≠ 0 then (s, hasL s i t.length) else ({ stepL s with way := s.way ++ [(i.toNat, pad t)] }, if (stepL s).off then 13 else 0)

/-- what a sector reads as -/
def seenL (s : Sl) (i : Nat) : Bytes := s.way.foldl (fun p w => if w.1 = i then w.2 else p) (s.done.getD i [])

def readL (s : Sl) (i : Int) : Bytes × Nat := if hasL s i 0 ≠ 0 then ([], hasL s i 0) else (seenL s i.toNat, 0)

def flushL (s : Sl) : Sl × Nat :=
  if s.off then (s, 13) else if (stepL s).off then (stepL s, 13) else ({ stepL s with done := s.way.foldl (fun d w => d.set w.1 w.2) s.done, way := [] }, 0)

def armL (s : Sl) (n : Int) : Sl × Nat := if n < 0 then (s, 1) else ({ s with armed := n.toNat }, 0)

def cutOf (cut : Int) : Nat := (min (max cut 0) 128).toNat

/-- what becomes of one write -/
def torn (fate : Nat) (c : Nat) (old fresh : Bytes) : Bytes :=
  (if fate = 1 ∨ fate = 2 then fresh.take c else old.take c) ++ (if fate = 1 ∨ fate = 3 then fresh.drop c else old.drop c)

def fateOf (fates : Bytes) (k : Nat) : Nat := if k < fates.length then (fates.getD k 0).toNat % 4 else 0

def crashD (fates : Bytes) (c : Nat) : Nat → List (Nat × Bytes) → List Bytes → List Bytes
  | _, [], d => d
  | k, w :: r, d => crashD fates c (k + 1) r (d.set w.1 (torn (fateOf fates k) c (d.getD w.1 []) w.2))

def crashL (s : Sl) (fates : Bytes) (cut : Int) : Sl := { s with done := crashD fates (cutOf cut) 0 s.way s.done, way := [], off := false, armed := 0 }

structure Ok (s : Sl) : Prop where
  sec : ∀ p ∈ s.done, p.length = 128
  wsec : ∀ w ∈ s.way, w.2.length = 128 ∧ w.1 < s.done.length
  small : s.done.length ≤ 4096
  wsmall : s.way.length ≤ 1000000
  ssmall : s.steps ≤ 1000000
  asmall : s.armed ≤ 9223372036854775807

theorem torn_length {fate c : Nat} {old fresh : Bytes} (h1 : old.length = 128) (h2 : fresh.length = 128) (hc : c ≤ 128) : (torn fate c old fresh).length = 128 := by
  unfold torn
  rw [List.length_append]
  split <;> split <;> simp [List.length_take, List.length_drop, h1, h2] <;> omega
theorem cutOf_le (cut : Int) : cutOf cut ≤ 128 := by unfold cutOf; omega
theorem seen_foldl (i : Nat) : ∀ (l : List (Nat × List UInt8)) (p : List UInt8), (∀ m (hm : m < l.length), l[m].1 ≠ i) → l.foldl (fun p w => if w.1 = i then w.2 else p) p = p
  | [], p, _ => rfl
  | x :: l, p, h => by
    have h0 : x.1 ≠ i := h 0 (by simp)
    rw [List.foldl_cons, if_neg h0]
    exact seen_foldl i l p fun m hm => h (m + 1) (by simpa using hm)
theorem seen_none {s : Sl} {i : Nat} (hi : i < s.done.length) (h : ∀ m (hm : m < s.way.length), s.way[m].1 ≠ i) : seenL s i = s.done[i] := by
  unfold seenL
  rw [seen_foldl i s.way _ h]
  simp [List.getElem?_eq_getElem hi]
theorem seen_found {s : Sl} {i j : Nat} (hj : j < s.way.length) (he : s.way[j].1 = i) (h : ∀ m (hm : m < s.way.length), j < m → s.way[m].1 ≠ i) : seenL s i = s.way[j].2 := by
  unfold seenL
  have e : ∀ p, s.way.foldl (fun p w => if w.1 = i then w.2 else p) p = (s.way.take (j + 1) ++ s.way.drop (j + 1)).foldl (fun p w => if w.1 = i then w.2 else p) p := fun p => by rw [List.take_append_drop]
  rw [e, List.foldl_append, seen_foldl i (s.way.drop (j + 1))]
  · rw [List.take_succ_eq_append_getElem hj, List.foldl_append]
    simp only [List.foldl_cons, List.foldl_nil]
    rw [if_pos he]
  · intro m hm
    rw [List.getElem_drop]
    exact h _ (by simp at hm; omega) (by omega)

/-! the document's example -/
def aw1 : Sl := (writeL (newL 2) 0 [1, 2]).1
def aw2 : Sl := (flushL aw1).1
def aw3 : Sl := (writeL aw2 0 [3, 4]).1
def aw4 : Sl := crashL aw3 [2] 1
theorem aw_codes : (writeL (newL 2) 0 [1, 2]).2 = 0 ∧ (flushL aw1).2 = 0 ∧ (writeL aw2 0 [3, 4]).2 = 0 ∧ (readL aw4 0).2 = 0 := by decide +kernel
theorem aw_small : (newL 2).steps < 1000000 ∧ (newL 2).way.length < 1000000 ∧ aw1.steps < 1000000 ∧ aw2.steps < 1000000 ∧ aw2.way.length < 1000000 := by decide +kernel
theorem aw_end : (readL aw4 0).1 = 3 :: 2 :: List.replicate 126 0 := by decide +kernel
/-! a slab of one sector -/
theorem te1 (p : Bytes) (h : p.length ≤ 128) : writeL (newL 1) 0 p = (⟨[List.replicate 128 0], [(0, pad p)], false, 0, 1⟩, 0) := by
  have e : hasL (newL 1) 0 p.length = 0 := by unfold hasL newL; simp; omega
  unfold writeL; rw [e]; simp [stepL, newL]
theorem te2 (z q : Bytes) (n : Nat) : flushL ⟨[z], [(0, q)], false, 0, n⟩ = (⟨[q], [], false, 0, n + 1⟩, 0) := by simp [flushL, stepL]
theorem te3 (z p : Bytes) (n : Nat) (h : p.length ≤ 128) : writeL ⟨[z], [], false, 0, n⟩ 0 p = (⟨[z], [(0, pad p)], false, 0, n + 1⟩, 0) := by
  have e : hasL ⟨[z], [], false, 0, n⟩ 0 p.length = 0 := by unfold hasL; simp; omega
  unfold writeL; rw [e]; simp [stepL]
theorem te4 (z q : Bytes) (n : Nat) (f : UInt8) (cut : Int) : crashL ⟨[z], [(0, q)], false, 0, n⟩ [f] cut = ⟨[torn (f.toNat % 4) (cutOf cut) z q], [], false, 0, n⟩ := by simp [crashL, crashD, fateOf]
theorem te5 (z : Bytes) (n : Nat) : readL ⟨[z], [], false, 0, n⟩ 0 = (z, 0) := by simp [readL, hasL, seenL]
end Quad.Slab


/- Whole arrays and structs of many cells: built, laid, stored. -/
namespace Go.Quad
open Go.RowKit

theorem wpListQ_build {P : Program} {w : World} {ops : Array Oper} {rest : List Oper} {o : Oper} {ac : Act} {Q : Exit → Act → World → Prop}
    (t : TypeId) (parts : Array (Nat × Operand)) (ho : o.op = .build t parts) (hw : Region.wanted o (yielded ops ac.tmps) = true) (cells : Array Value)
    (h : P.built t (parts.map fun (i, x) => (i, ac.eval x)).toList = some cells) (hK : wpList P ops Q rest (ac.put o.dst (.agg cells)) w) : wpList P ops Q (o :: rest) ac w := by
  refine wpList_by (fun v w' => v = .agg cells ∧ w' = w) hw ⟨_, _, ?_, rfl, rfl⟩ (by rintro v w' ⟨rfl, rfl⟩; exact hK)
  simp only [execOp, ho, Sem.run_bind, run_build w t _ cells h, Result.andThen_ok, Sem.run_pure]

theorem wpListQ_alloc {P : Program} {w : World} {ops : Array Oper} {rest : List Oper} {o : Oper} {ac : Act} {Q : Exit → Act → World → Prop}
    (t : TypeId) (ho : o.op = .alloc t) (hw : Region.wanted o (yielded ops ac.tmps) = true) (z : Array Value) (n : Nat) (h : (P.info? t).map (fun i => (i.zero, i.size)) = some (some (.agg z), n))
    (hK : wpList P ops Q rest (ac.put o.dst (.pointer (some ⟨w.heap.size, 0, none⟩))) (w.alloc (.cells z t))) : wpList P ops Q (o :: rest) ac w := by
  have hz := (zero_of_info (P := P) h).1
  refine wpList_by (fun v w' => v = .pointer (some ⟨w.heap.size, 0, none⟩) ∧ w' = w.alloc (.cells z t)) hw ⟨_, _, ?_, rfl, rfl⟩ (by rintro v w' ⟨rfl, rfl⟩; exact hK)
  simp only [execOp, ho, Instr.alloc, Sem.run_bind, hz, Result.andThen_ok, Sem.run_pure]
  simp [go_sem]

theorem wpListQ_store_new {P : Program} {w : World} {ops : Array Oper} {rest : List Oper} {o : Oper} {ac : Act} {Q : Exit → Act → World → Prop} (hgd : o.guard = none)
    (t : TypeId) (x y : Operand) (ho : o.op = .store t x y) (c c' : Array Value) (hx : ac.eval x = .pointer (some ⟨w.heap.size, 0, none⟩)) (hy : ac.eval y = .agg c')
    (hi : (P.info? t).map (·.size) = some c'.size) (hs : c.size = c'.size) (h1 : c'.all (·.oneCell') = true)
    (hK : wpList P ops Q rest (ac.put o.dst undef) (w.alloc (.cells c' t))) : wpList P ops Q (o :: rest) ac (w.alloc (.cells c t)) :=
  wpList_plain hgd fun _ hK' => by
    unfold Oper.wp execOp
    simp only [ho, hx, hy, Sem.run_bind, run_storeAt_new w t c c' hi hs h1, Result.andThen_ok, Sem.run_pure]
    exact hK' _ _ hK

theorem wpStillQ_load {P : Program} {w : World} {ops : Array Oper} {rest : List Oper} {o : Oper} {ac : Act} {Q : Act → Prop} (hw : Region.wanted o (yielded ops ac.tmps) = true)
    (t : TypeId) (x : Operand) (ho : o.op = .load t x) (b k : Nat) (hx : ac.eval x = .pointer (some ⟨b, k, none⟩)) (cs : List Value)
    (hr : (Instr.loadAt t (.pointer (some ⟨b, k, none⟩))).run P w = .ok (.agg cs.toArray) w)
    (h : wpStill P ops w Q rest (ac.put o.dst (.agg cs.toArray))) : wpStill P ops w Q (o :: rest) ac := by
  unfold wpStill
  rw [if_pos hw]
  unfold Oper.still execOp
  simp only [ho, hx, Sem.run_bind, hr, Result.andThen_ok, Sem.run_pure]
  rw [Oper.stillUpon_value]
  exact h

theorem run_buildOne {P : Program} (w : World) (t e : TypeId) (c z : Array Value) (n : Nat) (hu : P.underlying t = some (.slice e)) (hi : (P.info? e).map (fun i => (i.zero, i.size)) = some (some (.agg z), n)) (hn : 0 < n ∧ n ≤ 2 ^ 24) (hc : c.size = n) :
    (Instr.buildSlice t 1 #[(0, .agg c)]).run P w = .ok (.slice (some ⟨w.heap.size, 0, none⟩) 1 1) (w.alloc (.cells c e)) := by
  cases hie : P.info? e with
  | none => simp [hie] at hi
  | some ie =>
    simp only [hie, Option.map_some, Option.some.injEq, Prod.mk.injEq] at hi
    refine run_buildSlice w t e 1 _ c ie (.agg z) hu hie hi.1 (by rw [hi.2]; omega) (by rw [hi.2]; omega) ?_
    have := Great.fill_whole hn.1 [.agg c] ((Array.range (1 * ie.size)).map ((Value.agg z).cells[· % (Value.agg z).cells.size]!)) (fun v hv => by simp at hv; subst hv; exact hc) (by simp [hi.2])
    rw [hi.2] at this ⊢
    refine Eq.trans ?_ (this.trans ?_)
    · rfl
    · simp [Value.cells]

theorem wpListQ_buildOne {P : Program} {w : World} {ops : Array Oper} {rest : List Oper} {o : Oper} {ac : Act} {Q : Exit → Act → World → Prop} (hgd : o.guard = none)
    (t e : TypeId) (x : Operand) (ho : o.op = .buildSlice t 1 #[(0, x)]) (c z : Array Value) (n : Nat) (hx : ac.eval x = .agg c) (hu : P.underlying t = some (.slice e))
    (hi : (P.info? e).map (fun i => (i.zero, i.size)) = some (some (.agg z), n)) (hn : 0 < n ∧ n ≤ 2 ^ 24) (hc : c.size = n)
    (hK : wpList P ops Q rest (ac.put o.dst (.slice (some ⟨w.heap.size, 0, none⟩) 1 1)) (w.alloc (.cells c e))) : wpList P ops Q (o :: rest) ac w :=
  wpList_plain hgd fun _ hK' => by
    unfold Oper.wp execOp
    simp only [ho, List.map_toArray, List.map_cons, List.map_nil, hx, Sem.run_bind, run_buildOne w t e c z n hu hi hn hc, Result.andThen_ok, Sem.run_pure]
    exact hK' _ _ hK

/-! ### A region that draws, by hand -/
section
variable {P : Program} {ops : Array Oper} {Q : Exit → Act → World → Prop} {S : World → Prop} {fuel : Nat} {listed : Array Bool} {a : Act} {w : World}

theorem opValue {i : Nat} {oi : Oper} {K : Act → World → Prop} {v : Value} {w' : World} (hi : ops[i]? = some oi) (hgd : oi.guard = none) (hx : (execOp a.eval oi).run P w = .ok (.value v) w') (h : K (a.put oi.dst v) w') : wpOp P ops Q i K a w := by
  unfold wpOp
  simp only [hi, Region.wanted, hgd, if_true, Oper.wp, hx, Oper.upon]
  exact .inl h
theorem opSkip {i : Nat} {oi : Oper} {K : Act → World → Prop} {w' : World} (hi : ops[i]? = some oi) (hgd : oi.guard = none) (hx : (execOp a.eval oi).run P w = .ok .skip w') (h : K (a.put oi.dst undef) w') : wpOp P ops Q i K a w := by
  unfold wpOp
  simp only [hi, Region.wanted, hgd, if_true, Oper.wp, hx, Oper.upon]
  exact .inl h

theorem exec_load {o : Oper} {t : TypeId} {x : Operand} {p u : Value} (ho : o.op = .load t x) (hx : a.eval x = p) (hr : (Instr.loadAt t p).run P w = .ok u w) : (execOp a.eval o).run P w = .ok (.value u) w := by
  unfold execOp
  simp only [ho, hx, Sem.run_bind, hr, Result.andThen_ok, Sem.run_pure]
theorem exec_build1 {o : Oper} {t : TypeId} {x : Operand} {p u : Value} {w' : World} (ho : o.op = .buildSlice t 1 #[(0, x)]) (hx : a.eval x = p) (hr : (Instr.buildSlice t 1 #[(0, p)]).run P w = .ok u w') : (execOp a.eval o).run P w = .ok (.value u) w' := by
  unfold execOp
  simp only [ho, List.map_toArray, List.map_cons, List.map_nil, hx, Sem.run_bind, hr, Result.andThen_ok, Sem.run_pure]
theorem exec_append {o : Oper} {t : TypeId} {s x : Operand} {p q u : Value} {w' : World} (ho : o.op = .call { callee := .builtin .append, args := #[s, x], argTypes := #[t, t] }) (hs : a.eval s = p) (hx : a.eval x = q)
    (hr : (Builtin.append_ #[t, t] o.type #[p, q]).run P w = .ok u w') : (execOp a.eval o).run P w = .ok (.value u) w' := by
  unfold execOp
  simp only [ho, resolve, invoke, builtin, Sem.run_bind, Sem.run_pure, Result.andThen_ok, List.map_toArray, List.map_cons, List.map_nil, hs, hx, hr]

theorem anyH_one {i : Nat} {oi : Oper} {v : Value} {w' : World} (hi : ops[i]? = some oi) (hgd : oi.guard = none) (hr : Region.ready .any ops listed = [i]) (hx : (execOp a.eval oi).run P w = .ok (.value v) w') (hS : S w')
    (h : wpAnyH P .any ops Q S fuel (listed.setIfInBounds i true) (a.put oi.dst v) w') : wpAnyH P .any ops Q S (fuel + 1) listed a w := by
  refine wpAnyH_all hr (by simp) fun j hj => ?_
  simp only [List.mem_singleton] at hj
  subst hj
  exact opValue hi hgd hx ⟨hS, h⟩
theorem anyH_skip {i : Nat} {oi : Oper} {w' : World} (hi : ops[i]? = some oi) (hgd : oi.guard = none) (hr : Region.ready .any ops listed = [i]) (hx : (execOp a.eval oi).run P w = .ok .skip w') (hS : S w')
    (h : wpAnyH P .any ops Q S fuel (listed.setIfInBounds i true) (a.put oi.dst undef) w') : wpAnyH P .any ops Q S (fuel + 1) listed a w := by
  refine wpAnyH_all hr (by simp) fun j hj => ?_
  simp only [List.mem_singleton] at hj
  subst hj
  exact opSkip hi hgd hx ⟨hS, h⟩
theorem anyH_take {i : Nat} {oi : Oper} {v : Value} (hi : ops[i]? = some oi) (hgd : oi.guard = none)
    (hs : Region.noSelect ops = true) (hf : Region.free .any ops listed i = true) (hr : (Region.ready .any ops listed).contains i = true)
    (hQ : ∀ c a w, Q (.panic c) (a.put oi.dst v) w → Q (.panic c) a w) (hx : ∀ w, S w → (execOp a.eval oi).run P w = .ok (.value v) w) (hS : S w)
    (h : wpAnyH P .any ops Q S fuel (listed.setIfInBounds i true) (a.put oi.dst v) w) : wpAnyH P .any ops Q S (fuel + 1) listed a w :=
  wpAnyH_take hi hs hf hr hQ (.inl ⟨by simp [Region.wanted, hgd], hx⟩) hS h
/-- two that come in either order -/
theorem anyH_two {i j : Nat} {oi oj : Oper} {v u : Value} {w' : World} (hi : ops[i]? = some oi) (hj : ops[j]? = some oj) (hgi : oi.guard = none) (hgj : oj.guard = none)
    (hr : Region.ready .any ops listed = [i, j]) (hri : Region.ready .any ops (listed.setIfInBounds i true) = [j]) (hrj : Region.ready .any ops (listed.setIfInBounds j true) = [i])
    (hl : (listed.setIfInBounds j true).setIfInBounds i true = (listed.setIfInBounds i true).setIfInBounds j true) (hp : (a.put oj.dst u).put oi.dst v = (a.put oi.dst v).put oj.dst u)
    (hxi : (execOp a.eval oi).run P w = .ok (.value v) w) (hxj : (execOp (a.put oi.dst v).eval oj).run P w = .ok (.value u) w')
    (hxj' : (execOp a.eval oj).run P w = .ok (.value u) w') (hxi' : (execOp (a.put oj.dst u).eval oi).run P w' = .ok (.value v) w') (hS : S w) (hS' : S w')
    (h : wpAnyH P .any ops Q S fuel ((listed.setIfInBounds i true).setIfInBounds j true) ((a.put oi.dst v).put oj.dst u) w') : wpAnyH P .any ops Q S (fuel + 2) listed a w := by
  refine wpAnyH_all hr (by simp) fun k hk => ?_
  simp only [List.mem_cons, List.not_mem_nil, or_false] at hk
  rcases hk with rfl | rfl
  · exact opValue hi hgi hxi ⟨hS, anyH_one hj hgj hri hxj hS' h⟩
  · refine opValue hj hgj hxj' ⟨hS', anyH_one hi hgi hrj hxi' hS' ?_⟩
    rw [hl, hp]
    exact h
/-- i reads; j reads, k stands on j: three orders -/
theorem anyH_three {i j k : Nat} {oi oj ok : Oper} {v u x : Value} {w' : World} (hi : ops[i]? = some oi) (hj : ops[j]? = some oj) (hk : ops[k]? = some ok) (hgi : oi.guard = none) (hgj : oj.guard = none) (hgk : ok.guard = none)
    (hr : Region.ready .any ops listed = [i, j]) (hri : Region.ready .any ops (listed.setIfInBounds i true) = [j]) (hrij : Region.ready .any ops ((listed.setIfInBounds i true).setIfInBounds j true) = [k])
    (hrj : Region.ready .any ops (listed.setIfInBounds j true) = [i, k]) (hrji : Region.ready .any ops ((listed.setIfInBounds j true).setIfInBounds i true) = [k]) (hrjk : Region.ready .any ops ((listed.setIfInBounds j true).setIfInBounds k true) = [i])
    (hl1 : (((listed.setIfInBounds j true).setIfInBounds k true).setIfInBounds i true) = ((listed.setIfInBounds i true).setIfInBounds j true).setIfInBounds k true)
    (hl2 : (((listed.setIfInBounds j true).setIfInBounds i true).setIfInBounds k true) = ((listed.setIfInBounds i true).setIfInBounds j true).setIfInBounds k true)
    (hp1 : ((a.put oj.dst u).put ok.dst x).put oi.dst v = ((a.put oi.dst v).put oj.dst u).put ok.dst x)
    (hp2 : (a.put oj.dst u).put oi.dst v = (a.put oi.dst v).put oj.dst u)
    (h1 : (execOp a.eval oi).run P w = .ok (.value v) w) (h2 : (execOp (a.put oi.dst v).eval oj).run P w = .ok (.value u) w) (h3 : (execOp ((a.put oi.dst v).put oj.dst u).eval ok).run P w = .ok (.value x) w')
    (h4 : (execOp a.eval oj).run P w = .ok (.value u) w) (h5 : (execOp (a.put oj.dst u).eval oi).run P w = .ok (.value v) w)
    (h6 : (execOp (a.put oj.dst u).eval ok).run P w = .ok (.value x) w') (h7 : (execOp ((a.put oj.dst u).put ok.dst x).eval oi).run P w' = .ok (.value v) w') (hS : S w) (hS' : S w')
    (h : wpAnyH P .any ops Q S fuel (((listed.setIfInBounds i true).setIfInBounds j true).setIfInBounds k true) (((a.put oi.dst v).put oj.dst u).put ok.dst x) w') : wpAnyH P .any ops Q S (fuel + 3) listed a w := by
  refine wpAnyH_all hr (by simp) fun l hl => ?_
  simp only [List.mem_cons, List.not_mem_nil, or_false] at hl
  rcases hl with rfl | rfl
  · exact opValue hi hgi h1 ⟨hS, anyH_one hj hgj hri h2 hS (anyH_one hk hgk hrij h3 hS' h)⟩
  · refine opValue hj hgj h4 ⟨hS, wpAnyH_all hrj (by simp) fun m hm => ?_⟩
    simp only [List.mem_cons, List.not_mem_nil, or_false] at hm
    rcases hm with rfl | rfl
    · refine opValue hi hgi h5 ⟨hS, anyH_one hk hgk hrji (by rw [hp2]; exact h3) hS' ?_⟩
      rw [hl2, hp2]
      exact h
    · refine opValue hk hgk h6 ⟨hS', anyH_one hi hgi hrjk h7 hS' ?_⟩
      rw [hl1, hp1]
      exact h
end
end Go.Quad

/- The walks of layer 5: what is told of a slab, a step, a new slab. -/
namespace Go.Proofs.YtoapibbbooongaaDoor
open Go.RowKit Go.Quad _root_.Quad.Slab

def bV (p : List UInt8) : List Value := p.map u8v
def wrV (x : Nat × List UInt8) : List Value := .int .i64 (x.1 : Int) :: x.2.map u8v

/-- a slab in memory: at g its fields, at d what is done, wv what is under way -/
structure IsSlab (w : World) (B g d : Nat) (wv : Value) (s : Sl) : Prop where
  own : Blk w g [.slice (some ⟨d, 0, none⟩) s.done.length s.done.length, wv, .bool s.off, .int .i64 (s.armed : Int), .int .i64 (s.steps : Int)] 89
  don : Blk w d (s.done.flatMap bV) 114
  way : w.ownsRow B 116 129 wv s.way.length (s.way.flatMap wrV)
  ok : Ok s
  ge : B ≤ g ∧ B ≤ d
  ne : g ≠ d ∧ wv.ownBlock ≠ some g ∧ wv.ownBlock ≠ some d

/-- the blocks of a slab -/
def slS (g d : Nat) (wv : Value) : List Nat := g :: d :: wv.ownBlock.toList

theorem ownsRow_chg {S : List Nat} {w w' : World} {base : Nat} {e : TypeId} {size : Nat} {v : Value} {n : Nat} {xs : List Value} (h : w.ownsRow base e size v n xs) (hc : Chg S w w') (hs : ∀ k, v.ownBlock = some k → k ∉ S) : w'.ownsRow base e size v n xs := by
  refine ⟨h.1, ?_⟩
  rcases h.2 with h0 | ⟨g, cap, cur, rfl, hb, hg, h1⟩
  · exact .inl h0
  · have hlt : g < w.heap.size := (Array.getElem?_eq_some_iff.1 hg).1
    exact .inr ⟨g, cap, cur, rfl, hb, by rw [hc.block g hlt (hs g rfl)]; exact hg, h1⟩

theorem IsSlab.chg {S : List Nat} {w w' : World} {B g d : Nat} {wv : Value} {s : Sl} (h : IsSlab w B g d wv s) (hc : Chg S w w') (hS : ∀ k ∈ S, k ∉ slS g d wv) : IsSlab w' B g d wv s :=
  ⟨h.own.keep hc (fun hm => hS g hm (by simp [slS])), h.don.keep hc (fun hm => hS d hm (by simp [slS])), ownsRow_chg h.way hc (fun k hk hm => hS k hm (by simp [slS, hk])), h.ok, h.ge, h.ne⟩
theorem IsSlab.below {w w' : World} {B g d : Nat} {wv : Value} {s : Sl} (h : IsSlab w B g d wv s) (hb : Below w.heap.size w w') : IsSlab w' B g d wv s := h.chg (Chg.of_below [] hb) (by simp)

theorem has_calls (w : World) (B g d : Nat) (wv : Value) (s : Sl) (i : Int) (n : Nat) (h : IsSlab w B g d wv s) (hi : -9223372036854775808 ≤ i ∧ i ≤ 9223372036854775807) (hn : (n : Int) ≤ 9223372036854775807) :
    Calls Tryd.prog 56 #[.pointer (some ⟨g, 0, none⟩), .int .i64 i, .int .i64 (n : Int)] w fun e w' => e = .returned (.int .i64 (hasL s i n : Int)) ∧ w = w' := by
  have c0 := h.own.get 0 rfl
  have c2 := h.own.get 2 rfl
  have hsm := h.ok.small
  clear h
  obtain ⟨done, way, off, armed, steps⟩ := s
  dsimp only at c0 c2 hsm
  unfold hasL
  dsimp only
  by_cases h1 : i < 0
  · rw [if_pos (.inl h1)]
    go_enter Tryd.func56, Tryd.ntmps56
    go_wp2_with fail
    go_ret
    exact ⟨rfl, rfl⟩
  · have h1' : decide (i < 0) = false := by simpa using h1
    by_cases h2 : (done.length : Int) ≤ i
    · rw [if_pos (.inr h2)]
      go_enter Tryd.func56, Tryd.ntmps56
      go_wp2_with fail
      go_ret
      exact ⟨rfl, rfl⟩
    · rw [if_neg (by omega)]
      by_cases h3 : 128 < n
      · rw [if_pos h3]
        have h3' : (128 : Int) < (n : Int) := by omega
        clear h3
        go_enter Tryd.func56, Tryd.ntmps56
        go_wp2_with fail
        go_ret
        exact ⟨rfl, rfl⟩
      · rw [if_neg h3]
        have h3' : ¬ ((128 : Int) < (n : Int)) := by omega
        clear h3
        cases off
        all_goals
          go_enter Tryd.func56, Tryd.ntmps56
          go_wp2_with fail
          go_ret
          exact ⟨rfl, rfl⟩

theorem nilhas_calls (w : World) (i n : Int) : Calls Tryd.prog 56 #[.pointer none, .int .i64 i, .int .i64 n] w fun e w' => e = .returned (.int .i64 6) ∧ w = w' := by
  go_enter Tryd.func56, Tryd.ntmps56
  go_wp2_with fail
  go_ret
  exact ⟨rfl, rfl⟩

theorem ok_step {s : Sl} (h : Ok s) (hs : s.steps < 1000000) : Ok (stepL s) :=
  ⟨h.sec, h.wsec, h.small, h.wsmall, by unfold stepL; dsimp only; omega, by have := h.asmall; unfold stepL; dsimp only; omega⟩

/-- fields of a slab are stored -/
theorem IsSlab.put {w w' : World} {B g d : Nat} {wv : Value} {s s' : Sl} (h : IsSlab w B g d wv s) (hc : Chg [g] w w') (hB : Blk w' g [.slice (some ⟨d, 0, none⟩) s.done.length s.done.length, wv, .bool s'.off, .int .i64 (s'.armed : Int), .int .i64 (s'.steps : Int)] 89)
    (hd : s'.done = s.done) (hw : s'.way = s.way) (hok : Ok s') : IsSlab w' B g d wv s' := by
  have hne := h.ne
  refine ⟨by rw [hd]; exact hB, ?_, ?_, hok, h.ge, h.ne⟩
  · rw [hd]; exact h.don.keep hc (by simp; omega)
  · rw [hw]; exact ownsRow_chg h.way hc (fun k hk hm => by simp at hm; subst hm; exact hne.2.1 hk)

set_option maxHeartbeats 1000000 in
theorem step_calls (w : World) (B g d : Nat) (wv : Value) (s : Sl) (h : IsSlab w B g d wv s) (hs : s.steps < 1000000) :
    Calls Tryd.prog 57 #[.pointer (some ⟨g, 0, none⟩)] w fun e w' => e = .returned (.bool (!(stepL s).off)) ∧ IsSlab w' B g d wv (stepL s) ∧ Chg [g] w w' := by
  have c2 := h.own.get 2 rfl
  have c3 := h.own.get 3 rfl
  have c4 := h.own.get 4 rfl
  have f2 := h.own.free 2
  have f3 := h.own.free 3
  have f4 := h.own.free 4
  have hss : (s.steps : Int) ≤ 1000000 := by omega
  have has' : (s.armed : Int) ≤ 9223372036854775807 := by have := h.ok.asmall; omega
  have H := hid h
  have Hs := hid hs
  clear h hs
  by_cases h0 : s.armed = 0
  · have e : stepL s = { s with steps := s.steps + 1 } := by unfold stepL; rw [if_neg (by omega), h0]
    have E := hid e
    have ho : (stepL s).off = s.off := by rw [e]
    rw [ho]
    have h0' : ¬ (0 < (s.armed : Int)) := by omega
    have hB := (H.out.own.set 4 (.int .i64 ((s.steps : Int) + 1)))
    have hput := hid (H.out.put (s' := stepL s) (chg_setCell w g 4 (.int .i64 ((s.steps : Int) + 1))) (by rw [e]; simpa using hB) (by rw [e]) (by rw [e]) (ok_step H.out.ok Hs.out))
    clear e ho hB h0
    go_enter Tryd.func57, Tryd.ntmps57
    go_wp2_with fail
    go_ret
    exact ⟨rfl, hput.out, chg_setCell w g 4 _⟩
  · have e : stepL s = { s with steps := s.steps + 1, armed := s.armed - 1, off := decide (s.armed = 1) } := by unfold stepL; rw [if_pos (by omega)]
    have ho : (stepL s).off = decide (s.armed = 1) := by rw [e]
    rw [ho]
    have h0' : 0 < (s.armed : Int) := by omega
    have ha : ((s.armed : Int) - 1 == 0) = decide (s.armed = 1) := by
      rw [Bool.eq_iff_iff, beq_iff_eq, decide_eq_true_iff]; omega
    have hB := ((H.out.own.set 4 (.int .i64 ((s.steps : Int) + 1))).set 3 (.int .i64 ((s.armed : Int) - 1))).set 2 (.bool (decide (s.armed = 1)))
    have hc : Chg [g] w (((w.setCell ⟨g, 4, none⟩ (.int .i64 ((s.steps : Int) + 1))).setCell ⟨g, 3, none⟩ (.int .i64 ((s.armed : Int) - 1))).setCell ⟨g, 2, none⟩ (.bool (decide (s.armed = 1)))) :=
      ((chg_setCell w g 4 _).trans (chg_setCell _ g 3 _)).trans (chg_setCell _ g 2 _)
    have hput := hid (H.out.put (s' := stepL s) hc (by rw [e]; simp only [List.set_cons_succ, List.set_cons_zero] at hB; rw [show ((s.armed - 1 : Nat) : Int) = (s.armed : Int) - 1 from by omega]; simpa using hB) (by rw [e]) (by rw [e]) (ok_step H.out.ok Hs.out))
    have Hc := hid hc
    clear e ho hB h0 hc
    go_enter Tryd.func57, Tryd.ntmps57
    go_wp2_with fail
    go_ret
    exact ⟨rfl, hput.out, Hc.out⟩
end Go.Proofs.YtoapibbbooongaaDoor

/- The walks of layer 5: a new slab, what it tells, when the power goes. -/
namespace Go.Proofs.YtoapibbbooongaaDoor
open Go.RowKit Go.Quad _root_.Quad.Slab

theorem under_sectors : Tryd.prog.underlying 86 = some (.slice 114) := by kernel_rfl
theorem under_writes : Tryd.prog.underlying 87 = some (.slice 116) := by kernel_rfl
def zero128 : Array Value := Array.replicate 128 (.int .u8 0)
theorem info_sector : (Tryd.prog.info? 114).map (fun i => (i.zero, i.size, i.bytes)) = some (some (.agg zero128), 128, 128) := by kernel_rfl

theorem zero128_list : zero128.toList = bV (List.replicate 128 0) := by
  unfold zero128 bV
  rw [Array.toList_replicate, List.map_replicate]
  rfl
theorem bV_length (p : List UInt8) : (bV p).length = p.length := by simp [bV]

theorem made_sectors (n : Nat) : (madeCells (Value.agg zero128).cells (n * 128)).toList = (List.replicate n (List.replicate 128 (0 : UInt8))).flatMap bV := by
  have h := made_flat zero128 n (by simp [zero128])
  rw [show zero128.size = 128 from by simp [zero128], zero128_list] at h
  rw [show (Value.agg zero128).cells = zero128 from rfl, h, List.flatMap_def, List.map_replicate]

theorem ok_new (n : Nat) (h : n ≤ 4096) : Ok (newL n) := by
  refine ⟨fun p hp => ?_, by simp [newL], by simp [newL]; exact h, by simp [newL], by simp [newL], by simp [newL]⟩
  simp only [newL, List.mem_replicate] at hp
  rw [hp.2]; simp

theorem newslabnil_calls (w : World) (n : Int) (h : n < 1 ∨ 4096 < n) : Calls Tryd.prog 12 #[.int .i64 n] w fun e w' => e = .returned (.tuple #[.pointer none, .int .i64 1]) ∧ w = w' := by
  by_cases h1 : n < 1
  · go_enter Tryd.func12, Tryd.ntmps12
    go_wp2_with fail
    go_ret2
    exact ⟨rfl, rfl⟩
  · have h1' : decide (n < 1) = false := by simpa using h1
    have h2 : 4096 < n := by omega
    go_enter Tryd.func12, Tryd.ntmps12
    go_wp2_with fail
    go_ret2
    exact ⟨rfl, rfl⟩

def NewSlabTo (w : World) (n : Nat) (e : Ending) (w' : World) : Prop :=
  ∃ g d, e = .returned (.tuple #[.pointer (some ⟨g, 0, none⟩), .int .i64 0]) ∧ IsSlab w' w.heap.size g d (.slice none 0 0) (newL n) ∧ Below w.heap.size w w'

theorem newslab_calls (w : World) (n : Nat) (h : 1 ≤ n ∧ n ≤ 4096) : Calls Tryd.prog 12 #[.int .i64 (n : Int)] w (NewSlabTo w n) := by
  obtain ⟨i0, hi, hz0, hz1, hz2⟩ := info_parts info_sector
  have Hi := hid hi; have Hz0 := hid hz0; have Hz1 := hid hz1; have Hz2 := hid hz2
  have h1 : ¬ ((n : Int) < 1) := by omega
  have h2 : ¬ (4096 < (n : Int)) := by omega
  clear hi hz0 hz1 hz2
  go_enter Tryd.func12, Tryd.ntmps12
  go_wp2_with (at_make; go_must (refine wpList_make_full _ rfl (.tmp 10) (.tmp 10) _ rfl w.heap.size 114 i0 (.agg zero128) 128 under_sectors Hi.out Hz0.out Hz1.out .i64 .i64 _ _ n rfl rfl (by omega) (by omega) (by rw [Hz2.out]; omega) (by unfold maxLen; omega) (Nat.le_refl _) ?_; intro w1 hown hgr))
  have hb1 : Below w.heap.size w w1 := grownBy_below hgr (Nat.le_refl _) (by simp)
  have hB := blk_of_owned hown
  rw [made_sectors] at hB
  have hlt := hB.lt
  have HB := hid hB
  have Hb1 := hid hb1
  clear hown hgr hB hb1
  go_ret2
  have hl : (newL n).done.length = n := by simp [newL]
  refine ⟨w1.heap.size, w.heap.size, rfl, ⟨?_, HB.out.below (below_alloc w1 _), World.ownsRow_nil _ _ _ _, ok_new n h.2, ⟨Hb1.out.size, Nat.le_refl _⟩, by omega, by simp [Value.ownBlock], by simp [Value.ownBlock]⟩, Hb1.out.trans ((below_alloc w1 _).mono Hb1.out.size)⟩
  rw [hl]
  exact blk_alloc w1 [.slice (some ⟨w.heap.size, 0, none⟩) n n, .slice none 0 0, .bool false, .int .i64 0, .int .i64 0] _

theorem nillen_calls (w : World) : Calls Tryd.prog 44 #[.pointer none] w fun e w' => e = .returned (.int .i64 0) ∧ w = w' := by
  go_enter Tryd.func44, Tryd.ntmps44
  go_wp2_with fail
  go_ret
  exact ⟨rfl, rfl⟩

theorem len_calls (w : World) (B g d : Nat) (wv : Value) (s : Sl) (h : IsSlab w B g d wv s) :
    Calls Tryd.prog 44 #[.pointer (some ⟨g, 0, none⟩)] w fun e w' => e = .returned (.int .i64 (s.done.length : Int)) ∧ w = w' := by
  have c0 := h.own.get 0 rfl
  clear h
  go_enter Tryd.func44, Tryd.ntmps44
  go_wp2_with fail
  go_ret
  exact ⟨rfl, rfl⟩

theorem nilon_calls (w : World) : Calls Tryd.prog 45 #[.pointer none] w fun e w' => e = .returned (.bool false) ∧ w = w' := by
  go_enter Tryd.func45, Tryd.ntmps45
  go_wp2_with fail
  go_ret
  exact ⟨rfl, rfl⟩

theorem on_calls (w : World) (B g d : Nat) (wv : Value) (s : Sl) (h : IsSlab w B g d wv s) :
    Calls Tryd.prog 45 #[.pointer (some ⟨g, 0, none⟩)] w fun e w' => e = .returned (.bool (!s.off)) ∧ w = w' := by
  have c2 := h.own.get 2 rfl
  clear h
  go_enter Tryd.func45, Tryd.ntmps45
  go_wp2_with fail
  go_ret
  exact ⟨rfl, rfl⟩

end Go.Proofs.YtoapibbbooongaaDoor

/- The walk of a slab's write. -/
namespace Go.Proofs.YtoapibbbooongaaDoor
open Go.RowKit Go.Quad _root_.Quad.Slab

def zeros : List UInt8 := List.replicate 128 0
theorem wrV_length (x : Nat × List UInt8) (h : x.2.length = 128) : (wrV x).length = 129 := by simp [wrV, h]
theorem wrV_one (x : Nat × List UInt8) : ∀ u ∈ wrV x, u.oneCell' = true := by
  intro u hu
  rcases List.mem_cons.1 hu with rfl | hu
  · rfl
  · exact oneCell_u8v _ u hu
def zwrite : Array Value := (wrV (0, zeros)).toArray
theorem info_write : (Tryd.prog.info? 116).map (fun i => (i.zero, i.size)) = some (some (.agg zwrite), 129) := by kernel_rfl
theorem info_write3 : (Tryd.prog.info? 116).map (fun i => (i.zero, i.size, i.bytes)) = some (some (.agg zwrite), 129, 136) := by kernel_rfl
theorem built_write (i : Nat) : Tryd.prog.built 116 [(0, .int .i64 (i : Int))] = some (wrV (i, zeros)).toArray := by kernel_rfl
theorem size_write : (Tryd.prog.info? 116).map (·.size) = some 129 := by kernel_rfl

theorem under_write : ∃ d, Tryd.prog.underlying 116 = some d ∧ d.isRow = true := ⟨_, Tryd.underlying116, rfl⟩

theorem run_way (w : World) (g i : Nat) (v : Value) (h : w.cell? ⟨g, i, none⟩ = some v) : (Instr.loadAt 87 (.pointer (some ⟨g, i, none⟩))).run Tryd.prog w = .ok v w := by go_simp

theorem copy_src {w : World} {a : Option Addr} {cap : Nat} {t : List UInt8} (h : BS w a cap t) (h0 : 0 < (t.map u8v).length) : ∃ ad, a = some ad ∧ ∀ j v, (t.map u8v)[j]? = some v → w.cell? (ad.add j) = some v := by
  obtain ⟨b, off, e, hc⟩ := CS.at h h0
  refine ⟨_, e, fun j v hv => ?_⟩
  rw [Addr.add_mid]
  exact hc j v hv

theorem splice_write (k : Nat) (t : List UInt8) (_h : t.length ≤ 128) : splice (wrV (k, zeros)) 1 (t.map u8v) = wrV (k, pad t) := by
  unfold splice wrV pad zeros
  simp only [List.take_succ_cons, List.take_zero, List.length_map, List.map_append, List.map_replicate]
  rw [Nat.add_comm 1 t.length, List.drop_succ_cons, List.drop_replicate]
  rfl

/-- what a call leaves that writes to a slab -/
def SlabTo (w : World) (B g d : Nat) (wv : Value) (s' : Sl) (r : Nat) (e : Ending) (w' : World) : Prop :=
  ∃ wv', e = .returned (.int .i64 (r : Int)) ∧ IsSlab w' B g d wv' s' ∧ Chg (slS g d wv) w w' ∧ (∀ k, wv'.ownBlock = some k → k ∈ slS g d wv ∨ w.heap.size ≤ k)

theorem hasL_short {s : Sl} {i : Int} {n : Nat} (h : hasL s i n = 0) : n ≤ 128 := by
  unfold hasL at h
  split at h
  · omega
  · split at h <;> omega

theorem hasL_in {s : Sl} {i : Int} {n : Nat} (h : hasL s i n = 0) : 0 ≤ i ∧ i < s.done.length := by
  unfold hasL at h
  split at h
  · omega
  · rename_i hh
    simp only [not_or, Int.not_lt, Int.not_le] at hh
    exact hh

theorem run_way_store (w : World) (g i : Nat) (old : Value) (a : Option Addr) (n c : Nat) (h : w.cell? ⟨g, i, none⟩ = some old) (hf : w.frozen? ⟨g, i, none⟩ = false) :
    (Instr.storeAt 87 (.pointer (some ⟨g, i, none⟩)) (.slice a n c)).run Tryd.prog w = .ok () (w.setCell ⟨g, i, none⟩ (.slice a n c)) := by go_simp

theorem Blk.range {w : World} {g : Nat} {cs : List Value} {t : TypeId} (h : Blk w g cs t) : w.rangeAt g 0 cs := fun j v hv => by
  rw [Nat.zero_add, h.cell]; exact hv

theorem ok_write {s : Sl} {k : Nat} {t : List UInt8} (h : Ok s) (hs : s.steps < 1000000) (hw : s.way.length < 1000000) (hk : k < s.done.length) (ht : t.length ≤ 128) : Ok { stepL s with way := s.way ++ [(k, pad t)] } := by
  have h' := ok_step h hs
  refine ⟨h'.sec, ?_, h'.small, by simp; omega, h'.ssmall, h'.asmall⟩
  intro x hx
  rcases List.mem_append.1 hx with hx | hx
  · exact h'.wsec x hx
  · rw [List.mem_singleton] at hx
    subst hx
    exact ⟨pad_length ht, hk⟩

set_option maxRecDepth 20000 in
set_option maxHeartbeats 1000000 in
theorem write_calls (w : World) (B g d : Nat) (wv : Value) (s : Sl) (i : Int) (a : Option Addr) (cap : Nat) (t : List UInt8) (h : IsSlab w B g d wv s) (hi : -9223372036854775808 ≤ i ∧ i ≤ 9223372036854775807) (ht : BS w a cap t) (hs : s.steps < 1000000) (hw : s.way.length < 1000000) (hoff : t = [] ∨ ∀ x, a = some x → x.block ∉ slS g d wv) (h0 : hasL s i t.length = 0) :
    Calls Tryd.prog 17 #[.pointer (some ⟨g, 0, none⟩), .int .i64 i, .slice a t.length cap] w (SlabTo w B g d wv (writeL s i t).1 (writeL s i t).2) := by
  have hlt : t.length ≤ 128 := hasL_short h0
  have hm := ht.max'
  have H := hid h
  have T := hid ht
  have C := has_calls w B g d wv s i t.length h hi (by omega)
  rw [h0] at C
  have Cx := hid C
  have hin := hasL_in h0
  obtain ⟨k, rfl⟩ : ∃ k : Nat, i = k := ⟨i.toNat, by omega⟩
  have hwl : writeL s (k : Int) t = ({ stepL s with way := s.way ++ [(k, pad t)] }, if (stepL s).off then 13 else 0) := by
    unfold writeL
    rw [if_neg (by rw [h0]; simp), Int.toNat_natCast]
  have hokw := hid (ok_write h.ok hs hw (k := k) (by omega) hlt)
  have Hwl := hid hwl
  have Hw := hid hw
  have Hs := hid hs
  have Hoff := hid hoff
  clear h ht C h0 hwl hw hin hoff
  go_enter Tryd.func17, Tryd.ntmps17
  go_wp2_with fail
  refine Cx.out.mono ?_
  rintro e w' ⟨rfl, rfl⟩
  go_wp2_with fail
  refine (step_calls _ _ _ _ _ _ H.out Hs.out).mono ?_
  rintro e w1 ⟨rfl, h1, hc1⟩
  go_upto_region 6 with (first | (refine wpListQ_build 116 #[(0, .tmp 20)] rfl rfl (wrV (k, zeros)).toArray ?_ ?_; exact (by simpa [go_sem] using built_write k)) | (refine wpListQ_alloc 116 rfl rfl _ _ info_write ?_) | (refine wpListQ_store_new rfl 116 (.tmp 9) (.tmp 21) rfl zwrite (wrV (k, zeros)).toArray rfl rfl (by rw [size_write]; simp [wrV, zeros]) (by simp [zwrite, wrV, zeros]) (all_oneCell_toArray (wrV_one _)) ?_))
  have hT1 : BS (w1.alloc (.cells (wrV (k, zeros)).toArray 116)) a cap t := by
    refine BS.below (w := w1) (bs_keep T.out hc1 (Hoff.out.imp id fun h x hx hm => ?_)) (below_alloc w1 _)
    simp only [List.mem_singleton] at hm
    exact h x hx (by rw [hm]; simp [slS])
  have hg1 : (w1.alloc (.cells (wrV (k, zeros)).toArray 116)).heap[w1.heap.size]? = some (.cells (wrV (k, zeros)).toArray 116 (0, 0)) := heap_alloc_new w1 _
  have HT1 := hid hT1
  have Hg1 := hid hg1
  have Hlt := hid hlt
  have H1 := hid h1
  clear hT1 hg1 h1
  go_upto_region 7 with ((with_reducible refine wpList_copy_splice rfl (.tmp 23) (.tmp 24) 33 33 rfl 5 under_bytes (by kernel_rfl) (some ⟨w1.heap.size, 1, none⟩) a 128 128 t.length cap rfl rfl w1.heap.size 1 _ 116 Hg1.out (t.map u8v) (by have := Hlt.out; rw [List.length_map]; exact (Nat.min_eq_left this).symm) (fun h0 => ⟨rfl, copy_src HT1.out h0⟩) (by have := Hlt.out; simp [wrV, zeros]; omega) (oneCell_u8v _) w1.heap.size w1 (below_alloc w1 _) (Nat.le_refl _) ?_); intro w6 hH hb6)
  have hlen : (wrV (k, pad t)).length = 129 := wrV_length _ (pad_length Hlt.out)
  have hH' : w6.heap[w1.heap.size]? = some (.cells (wrV (k, pad t)).toArray 116 (0, 0)) := by
    have := hH.out
    rw [splice_write k t Hlt.out] at this
    exact this
  have hrow : w6.rangeAt w1.heap.size 0 (wrV (k, pad t)) := fun j v hv => by
    rw [Nat.zero_add, cell_of_row w6 w1.heap.size j _ _ _ hH']; simpa using hv
  have H6 := H1.out.below hb6
  have Hrow := hid hH'
  have H6 := hid (H1.out.below hb6)
  have Hb6 := hid hb6
  have Hlen := hid hlen
  have hwb := World.ownsRow.lt H1.out.way
  have hne := H1.out.ne
  have hlt1 := H1.out.own.lt
  have hlt2 := H1.out.don.lt
  have hsz6 : w1.heap.size < w6.heap.size := (Array.getElem?_eq_some_iff.1 Hrow.out).1
  clear hrow hH' hlen hH hb6
  refine wp_region_chg 8 7 wv.ownBlock.toList (fun i v w' => match i with
    | 0 | 1 | 2 | 8 => v = .pointer (some ⟨g, 0, none⟩)
    | 3 | 9 => v = .pointer (some ⟨g, 1, none⟩)
    | 4 => v = wv
    | 5 => v = .agg (wrV (k, pad t)).toArray
    | 6 => ∃ b, v = .slice (some ⟨b, 0, none⟩) 1 1 ∧ Blk w' b (wrV (k, pad t)) 116 ∧ w6.heap.size ≤ b
    | 7 => (∃ a c, v = .slice a (s.way.length + 1) c) ∧ w'.ownsRow B 116 129 v (s.way.length + 1) (s.way.flatMap wrV ++ wrV (k, pad t)) ∧ (v.ownBlock = wv.ownBlock ∨ ∃ b, v.ownBlock = some b ∧ w6.heap.size ≤ b)
    | _ => True) (by kernel_rfl) (by kernel_rfl) (by kernel_rfl) ?_ ?_ ?_ ?_
  · intro j v w2 w3 hR hb
    match j, hR with
    | 0, hR | 1, hR | 2, hR | 3, hR | 4, hR | 5, hR | 8, hR | 9, hR => exact hR
    | 6, ⟨b, e, hB, hl⟩ => exact ⟨b, e, hB.below hb, hl⟩
    | 7, ⟨h0, hR, h1⟩ => exact ⟨h0, ownsRow_chg hR (Chg.of_below [] hb) (by simp), h1⟩
    | _ + 10, _ => trivial
  · intro j v w2 w3 hne hR hb
    match j, hR with
    | 0, hR | 1, hR | 2, hR | 3, hR | 4, hR | 5, hR | 8, hR | 9, hR => exact hR
    | 6, ⟨b, e, hB, hl⟩ => exact ⟨b, e, hB.keep hb (fun hm => by have := hwb b (by simpa using hm); omega), hl⟩
    | 7, _ => exact (hne rfl).elim
    | _ + 10, _ => trivial
  · refine ⟨?_, ?_, ?_, ?_, ?_, ?_, ?_, ?_, ?_, ?_, trivial⟩
    all_goals intro ρ w2 hE hc hg hf
    · intro h0; exact opOk_move _ rfl ⟨Below.refl _ _, h0⟩
    · intro h0; exact opOk_move _ rfl ⟨Below.refl _ _, h0⟩
    · intro (h0 : ρ (.tmp 27) = .pointer (some ⟨g, 0, none⟩))
      exact opOk_run (v := .pointer (some ⟨g, 0, none⟩)) (w' := w2) (by go_simp) ⟨Below.refl _ _, rfl⟩
    · intro (h0 : ρ (.tmp 28) = .pointer (some ⟨g, 0, none⟩))
      exact opOk_run (v := .pointer (some ⟨g, 1, none⟩)) (w' := w2) (by go_simp) ⟨Below.refl _ _, rfl⟩
    · intro (h0 : ρ (.tmp 29) = .pointer (some ⟨g, 1, none⟩))
      have hE : Chg wv.ownBlock.toList w6.drew w2 := hE
      have c := ((H6.out.own.below (below_drew _)).keep hE (fun hm => hne.2.1 (by simpa using hm))).get 1 rfl
      exact opOk_load _ _ rfl _ _ h0 (run_way _ _ _ _ c) ⟨Below.refl _ _, rfl⟩
    · intro h0
      have hE : Chg wv.ownBlock.toList w6.drew w2 := hE
      have hB : Blk w2 w1.heap.size (wrV (k, pad t)) 116 := (Blk.below (w := w6) Hrow.out (below_drew _)).keep hE (fun hm => by have := hwb _ (by simpa using hm); omega)
      exact opOk_load_row _ _ rfl w1.heap.size 0 _ h0 (Blk.range hB) under_write (by rw [Hlen.out]; exact size_write) ⟨Below.refl _ _, rfl⟩
    · intro (h0 : ρ (.tmp 31) = .agg (wrV (k, pad t)).toArray)
      have hE : Chg wv.ownBlock.toList w6.drew w2 := hE
      have hr := run_buildOne (P := Tryd.prog) w2 87 116 (wrV (k, pad t)).toArray zwrite 129 under_writes info_write (by decide) (by simpa using Hlen.out)
      exact opOk_build1 _ _ rfl _ _ h0 hr ⟨below_alloc w2 _, w2.heap.size, rfl, blk_alloc w2 _ _, hE.size⟩
    · intro h0 ⟨b, h1, hB, hl⟩
      have hE : Below w6.drew.heap.size w6.drew w2 := hE
      have hown : w2.ownsRow B 116 129 wv s.way.length (s.way.flatMap wrV) := ownsRow_chg (ownsRow_chg H6.out.way (Chg.of_below [] (below_drew _)) (by simp)) (Chg.of_below [] hE) (by simp)
      refine opOk_append _ _ _ rfl B 116 (.agg zwrite) 129 136 info_write3 (by simp [zwrite, wrV, zeros, Value.cells]) (by decide) under_writes wv _ _ h0 hown ⟨b, 0, none⟩ 1 1 (wrV (k, pad t)) h1 (by rw [Hlen.out])
        (fun j u hu => by rw [Addr.add_mid]; exact Blk.range hB j u hu) (wrV_one _) (by have := Hw.out; unfold maxLen; omega) (by have := Hw.out; omega) (by have := H6.out.ge; have := hE.size; have h2 : w6.drew.heap.size = w6.heap.size := rfl; omega) ?_
      intro v' w3 h2 h3 h4
      refine ⟨chg_grownBy h3, (by obtain ⟨a, c, e, _⟩ := ownsRow_cs h2; exact ⟨a, c, e⟩), h2, h4.imp id fun h => ⟨_, h, hE.size⟩⟩
    · intro (h0 : ρ (.tmp 26) = .pointer (some ⟨g, 0, none⟩))
      exact opOk_run (v := .pointer (some ⟨g, 0, none⟩)) (w' := w2) (by go_simp) ⟨Below.refl _ _, rfl⟩
    · intro (h0 : ρ (.tmp 34) = .pointer (some ⟨g, 0, none⟩))
      exact opOk_run (v := .pointer (some ⟨g, 1, none⟩)) (w' := w2) (by go_simp) ⟨Below.refl _ _, rfl⟩
  · intro w2 hE
    rintro _ rfl _ rfl _ rfl _ rfl wv rfl _ rfl _ ⟨b, rfl, hB, hl⟩ _ ⟨⟨a33, c33, rfl⟩, h33, h33'⟩ _ rfl _ rfl
    have hown2 : Blk w2 g _ _ := (H6.out.own.below (below_drew _)).keep hE (fun hm => hne.2.1 (by simpa using hm))
    have hr := run_way_store w2 g 1 _ a33 (s.way.length + 1) c33 (hown2.get 1 rfl) (hown2.free 1)
    simp only [PutLast, Act.put, List.setIfInBounds_toArray, List.set_cons_succ, List.set_cons_zero]
    refine opOk_store _ _ _ rfl (.pointer (some ⟨g, 1, none⟩)) (.slice a33 (s.way.length + 1) c33) rfl rfl hr ?_
    have hB := hown2.set 1 (.slice a33 (s.way.length + 1) c33)
    have hch : Chg [g] w2 (w2.setCell ⟨g, 1, none⟩ (.slice a33 (s.way.length + 1) c33)) := chg_setCell w2 g 1 _
    have hbig : ∀ q, (Value.slice a33 (s.way.length + 1) c33).ownBlock = some q → q ∈ slS g d wv ∨ w6.heap.size ≤ q := by
      intro q hq
      rcases h33' with h | ⟨b', h, hl'⟩
      · rw [h] at hq; exact .inl (by simp [slS, hq])
      · rw [h] at hq; cases hq; exact .inr hl'
    have hne3 : (Value.slice a33 (s.way.length + 1) c33).ownBlock ≠ some g ∧ (Value.slice a33 (s.way.length + 1) c33).ownBlock ≠ some d := by
      rcases h33' with h | ⟨b', h, hl'⟩
      · rw [h]; exact hne.2
      · rw [h]; simp; omega
    simp only [List.set_cons_succ, List.set_cons_zero] at hB
    have hdon : Blk w2 d (s.done.flatMap bV) 114 := (H6.out.don.below (below_drew _)).keep hE (fun hm => hne.2.2 (by simpa using hm))
    have hsl : IsSlab (w2.setCell ⟨g, 1, none⟩ (.slice a33 (s.way.length + 1) c33)) B g d (.slice a33 (s.way.length + 1) c33) { stepL s with way := s.way ++ [(k, pad t)] } := by
      refine ⟨hB, hdon.keep hch (by simp; exact fun e => hne.1 e.symm), ?_, hokw.out, H6.out.ge, ⟨hne.1, hne3⟩⟩
      dsimp only
      rw [List.length_append, List.flatMap_append, List.flatMap_singleton]
      exact ownsRow_chg h33 hch (fun q hq hm => by simp at hm; subst hm; exact hne3.1 hq)
    have hfoot : Chg (slS g d wv) w (w2.setCell ⟨g, 1, none⟩ (.slice a33 (s.way.length + 1) c33)) := by
      refine (hc1.mono (by simp [slS])).trans (((Chg.of_below _ Hb6.out).trans ?_).trans (hch.mono (by simp [slS])))
      exact (Chg.of_below _ (below_drew w6)).trans (hE.mono fun q hq => .inl (List.mem_cons_of_mem _ (List.mem_cons_of_mem _ hq)))
    have Hfin := hid (⟨hsl, hfoot, fun q hq => (hbig q hq).imp id fun h => by have := hc1.size; omega⟩ : IsSlab (w2.setCell ⟨g, 1, none⟩ (.slice a33 (s.way.length + 1) c33)) B g d (.slice a33 (s.way.length + 1) c33) { stepL s with way := s.way ++ [(k, pad t)] } ∧ Chg (slS g d wv) w (w2.setCell ⟨g, 1, none⟩ (.slice a33 (s.way.length + 1) c33)) ∧ ∀ q, (Value.slice a33 (s.way.length + 1) c33).ownBlock = some q → q ∈ slS g d wv ∨ w.heap.size ≤ q)
    clear hr h33 hown2 hch hbig hne3 hdon hsl hfoot h33' hwb hne hE hB
    obtain ⟨o, ho⟩ : ∃ o, (stepL s).off = o := ⟨_, rfl⟩
    have Hwl2 := hid (show writeL s (k : Int) t = ({ stepL s with way := s.way ++ [(k, pad t)] }, if o then 13 else 0) from Hwl.out.trans (by rw [← ho]))
    rw [ho]
    clear ho
    cases o
    all_goals
      go_wp2_with fail
      go_ret
      rw [Hwl2.out]
      exact ⟨_, rfl, Hfin.out⟩
end Go.Proofs.YtoapibbbooongaaDoor

/- The walk of a slab's read. -/
namespace Go.Proofs.YtoapibbbooongaaDoor
open Go.RowKit Go.Quad _root_.Quad.Slab

theorem flat_lengthM {α : Type} (f : α → List Value) (sz : Nat) : ∀ (l : List α), (∀ x ∈ l, (f x).length = sz) → (l.flatMap f).length = l.length * sz
  | [], _ => by simp
  | x :: l, h => by
    rw [List.flatMap_cons, List.length_append, flat_lengthM f sz l fun y hy => h y (List.mem_cons_of_mem _ hy), h x (List.mem_cons_self ..), List.length_cons, Nat.add_mul]; omega

theorem flat_getM {α : Type} (f : α → List Value) (sz : Nat) : ∀ (l : List α), (∀ x ∈ l, (f x).length = sz) → ∀ (i j : Nat) (x : α), l[i]? = some x → j < sz → (l.flatMap f)[i * sz + j]? = (f x)[j]?
  | [], _, i, j, x, h, _ => by simp at h
  | y :: l, hf, 0, j, x, h, hj => by
    simp only [List.getElem?_cons_zero, Option.some.injEq] at h
    subst h
    rw [List.flatMap_cons, Nat.zero_mul, Nat.zero_add, List.getElem?_append_left (by rw [hf y (List.mem_cons_self ..)]; exact hj)]
  | y :: l, hf, i + 1, j, x, h, hj => by
    have hy := hf y (List.mem_cons_self ..)
    rw [List.flatMap_cons, List.getElem?_append_right (by rw [hy, Nat.add_mul]; omega), hy]
    rw [show (i + 1) * sz + j - sz = i * sz + j from by rw [Nat.add_mul]; omega]
    exact flat_getM f sz l (fun z hz => hf z (List.mem_cons_of_mem _ hz)) i j x (by simpa using h) hj

theorem wrV_all {s : Sl} (h : Ok s) : ∀ x ∈ s.way, (wrV x).length = 129 := fun x hx => wrV_length x (h.wsec x hx).1
theorem bV_all {s : Sl} (h : Ok s) : ∀ x ∈ s.done, (bV x).length = 128 := fun x hx => by rw [bV_length]; exact h.sec x hx

/-- the cells of what is under way -/
theorem IsSlab.way_cells {w : World} {B g d : Nat} {wv : Value} {s : Sl} (h : IsSlab w B g d wv s) (k : Nat) (hk : k < s.way.length) :
    ∃ b cap, wv = .slice (some ⟨b, 0, none⟩) s.way.length cap ∧ w.cell? ⟨b, k * 129, none⟩ = some (.int .i64 (s.way[k].1 : Int)) ∧ BS w (some ⟨b, k * 129 + 1, none⟩) 128 s.way[k].2 := by
  obtain ⟨a, cap, e, hle, hcs, _⟩ := ownsRow_cs h.way
  have hall := wrV_all h.ok
  have hlen := flat_lengthM wrV 129 s.way hall
  obtain ⟨b, off, ea, hc⟩ := hcs.at (by omega)
  have hoff : off = 0 := by
    have := (ownsRow_cs h.way)
    obtain ⟨a', cap', e', _, _, hx⟩ := this
    rw [e] at e'
    simp only [Value.slice.injEq] at e'
    rw [← e'.1] at hx
    exact (hx _ ea).1
  subst hoff
  subst ea
  have hget := fun j => flat_getM wrV 129 s.way hall k j _ (List.getElem?_eq_getElem hk)
  refine ⟨b, cap, e, ?_, ?_⟩
  · have := hc (k * 129 + 0) (.int .i64 (s.way[k].1 : Int)) (by rw [hget 0 (by decide)]; rfl)
    simpa using this
  · have hl := (h.ok.wsec _ (List.getElem_mem hk)).1
    refine BS.of_row hl (Nat.le_refl _) (by simp [maxLen]) fun i hi => ?_
    have := hc (k * 129 + (i + 1)) (.int .u8 ((s.way[k].2[i] : UInt8).toNat : Int)) (by
      rw [hget (i + 1) (by omega)]
      simp [wrV, u8v, List.getElem?_eq_getElem hi])
    rw [show k * 129 + 1 + i = 0 + (k * 129 + (i + 1)) from by omega]
    exact this

/-- a sector's bytes -/
theorem IsSlab.sec_cells {w : World} {B g d : Nat} {wv : Value} {s : Sl} (h : IsSlab w B g d wv s) (k : Nat) (hk : k < s.done.length) : BS w (some ⟨d, k * 128, none⟩) 128 s.done[k] := by
  have hl := h.ok.sec _ (List.getElem_mem hk)
  refine BS.of_row hl (Nat.le_refl _) (by simp [maxLen]) fun i hi => ?_
  refine h.don.get (k * 128 + i) ?_
  rw [flat_getM bV 128 s.done (bV_all h.ok) k i _ (List.getElem?_eq_getElem hk) (by omega)]
  simp [bV, u8v, List.getElem?_eq_getElem hi]

theorem clone_n (a : Option Addr) (n cap : Nat) (l : List UInt8) (w : World) (h : BS w a cap l) (hl : l.length = n) (hn : n ≤ 140737488355328) : Calls Tryd.prog 75 #[.slice a n cap] w (RetB w.heap.size w l) := by
  subst hl; exact clone_calls a cap l w h hn

def ReadTo (w : World) (p : List UInt8) (e : Ending) (w' : World) : Prop := ∃ v, e = .returned (.tuple #[v, .int .i64 0]) ∧ OB w' w.heap.size 5 v p ∧ Below w.heap.size w w'

def RdRel (s : Sl) (i : Nat) (kv : Value) : Prop := ∃ j : Int, kv = .int .i64 j ∧ -1 ≤ j ∧ j < (s.way.length : Int) ∧ ∀ m (hm : m < s.way.length), j < (m : Int) → s.way[m].1 ≠ i

theorem readno_calls (w : World) (B g d : Nat) (wv : Value) (s : Sl) (i : Int) (n : Nat) (h : IsSlab w B g d wv s) (hi : -9223372036854775808 ≤ i ∧ i ≤ 9223372036854775807) (h0 : hasL s i 0 = n) (hn : n ≠ 0) :
    Calls Tryd.prog 82 #[.pointer (some ⟨g, 0, none⟩), .int .i64 i] w fun e w' => e = .returned (.tuple #[.slice none 0 0, .int .i64 (n : Int)]) ∧ w = w' := by
  have C := has_calls w B g d wv s i 0 h hi (by omega)
  rw [h0] at C
  have Cx := hid C
  have hb : ((n : Int) == 0) = false := by rw [beq_eq_false_iff_ne]; omega
  have hb' : ((n : Int) != 0) = true := by rw [bne_iff_ne]; omega
  clear h C h0 hn
  go_enter Tryd.func82, Tryd.ntmps82
  go_wp2_with fail
  refine Cx.out.mono ?_
  rintro e w' ⟨rfl, rfl⟩
  go_wp2_with fail
  go_ret2
  exact ⟨rfl, rfl⟩

set_option maxHeartbeats 1000000 in
theorem read_calls (w : World) (B g d : Nat) (wv : Value) (s : Sl) (i : Nat) (h : IsSlab w B g d wv s) (h0 : hasL s i 0 = 0) :
    Calls Tryd.prog 82 #[.pointer (some ⟨g, 0, none⟩), .int .i64 (i : Int)] w (ReadTo w (seenL s i)) := by
  have hin := hasL_in h0
  have hsm := h.ok.small
  have hwsm := h.ok.wsmall
  have C := has_calls w B g d wv s i 0 h (by omega) (by omega)
  rw [h0] at C
  have Cx := hid C
  have H := hid h
  obtain ⟨wa, wc, e, hwle, _⟩ := ownsRow_cs h.way
  have c1 := h.own.get 1 rfl
  have c0 := h.own.get 0 rfl
  rw [e] at c1
  have E := hid e
  have hlen : (s.way.length : Int) ≤ 1000000 := by omega
  have hi2 : (i : Int) < (s.done.length : Int) := by omega
  clear h C h0 e
  go_enter Tryd.func82, Tryd.ntmps82
  go_wp2_with fail
  refine Cx.out.mono ?_
  rintro e w' ⟨rfl, rfl⟩
  go_wp2_with fail
  go_loop [7] (fun kv => RdRel s i kv) (fun kv => (intOf kv + 1).toNat)
  case atStart => exact ⟨_, rfl, by omega, by omega, fun m hm h => by omega⟩
  case round =>
    obtain ⟨j, rfl, hj1, hj2, hj3⟩ := hrel
    have Hj := hid hj3
    clear hj3
    by_cases hneg : j < 0
    · have sn := hid (seen_none (s := s) (i := i) (by omega) (fun m hm => Hj.out m hm (by omega)))
      have hneg' : ¬ (0 ≤ j) := by omega
      have S := H.out.sec_cells i (by omega)
      rw [← sn.out] at S
      have hsl : (seenL s i).length = 128 := by rw [sn.out]; exact H.out.ok.sec _ (List.getElem_mem _)
      have Hsl := hid hsl
      have S1 := hid S
      clear S hsl
      go_wp2_with fail
      refine (clone_n _ 128 _ _ _ S1.out Hsl.out (by omega)).mono ?_
      rintro e w1 ⟨v, rfl, hv, hb⟩
      have F := hid (And.intro hv hb)
      clear hv hb
      go_wp2_with fail
      go_ret2
      exact ⟨_, rfl, F.out.1, F.out.2⟩
    · obtain ⟨k, rfl⟩ : ∃ k : Nat, j = k := ⟨j.toNat, by omega⟩
      have hk : k < s.way.length := by omega
      obtain ⟨b, cap, e2, hc1, hbs⟩ := H.out.way_cells k hk
      have e3 := E.out.symm.trans e2
      simp only [Value.slice.injEq] at e3
      obtain ⟨rfl, _, rfl⟩ := e3
      have hbl := (H.out.ok.wsec _ (List.getElem_mem hk)).1
      have Hbs := hid (And.intro hbs hbl)
      have Hk := hid hk
      clear hbs e2 hbl
      by_cases he : s.way[k].1 = i
      · have sn := hid (seen_found (s := s) (i := i) hk he (fun m hm h => Hj.out m hm (by omega)))
        rw [he] at hc1
        clear he
        go_wp2_with fail
        refine (clone_n _ 128 _ _ _ Hbs.out.1 Hbs.out.2 (by omega)).mono ?_
        rintro e w1 ⟨v, rfl, hv, hb⟩
        have F := hid (And.intro hv hb)
        clear hv hb
        go_wp2_with fail
        go_ret2
        exact ⟨_, rfl, by rw [sn.out]; exact F.out.1, F.out.2⟩
      · have hne : ((s.way[k].1 : Int) == (i : Int)) = false := by rw [beq_eq_false_iff_ne]; omega
        have He := hid he
        clear he
        go_wp2_with fail
        have R : RdRel s i (.int .i64 ((k : Int) - 1)) := ⟨_, rfl, by omega, by omega, fun m hm h => by
          rcases Nat.lt_or_ge k m with h1 | h1
          · exact Hj.out m hm (by omega)
          · obtain rfl : m = k := by omega
            exact He.out⟩
        refine ⟨?_, by simp [intOf]⟩
        first | exact R | ((repeat apply Exists.intro); refine ⟨R, ?_⟩; and_intros <;> rfl)
end Go.Proofs.YtoapibbbooongaaDoor
